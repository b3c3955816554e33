/- Texts without line's ends, paths without blanks: by the program, by the document. -/
import Derived.Test.YtphinjijaglokaaGreatDoorSzI
import Derived.Test.YtphinjijaglokaaGreatDoorSzC
namespace Go.Vm
open Go Go.Proofs Go.Pa
attribute [local simp] OkS Qi OkG Qh Qp OkD JY Qr JI Jm Jq vop Js JB ev evs toV Jl Fr.dsTo Fr.glTo Fr.toNone Ji Jj Jk Qk QL Jd JD Jv V.undef JW JM J7 JX J3 J9 J8 Qa JH J4 J5 JZ JO Qb Jt Ju Jw Jz JE Jr JL JN JK Qq
def JaY (l : List UInt8) : List UInt8 := l.flatMap fun b => if b = 32 then [92, 115] else [b]
theorem Jc0 (a b : List UInt8) : JaY (a ++ b) = JaY a ++ JaY b := by simp [JaY]
theorem Jfu : ∀ {l : List UInt8}, 32 ∉ l → JaY l = l
 | [], _ => rfl
 | a :: l, h => by
  have h1 : a ≠ 32 := fun e => h (by simp [e])
  have h2 : 32 ∉ l := fun e => h (by simp [e])
  show (if a = 32 then [92, 115] else [a]) ++ JaY l = a :: l
  rw [if_neg h1, Jfu h2]; rfl
theorem JfY : ∀ l : List UInt8, (JaY l).length ≤ 2 * l.length
 | [] => Nat.le_refl _
 | a :: l => by
  have := JfY l
  have h1 : ((if a = 32 then [92, 115] else [a]) : List UInt8).length ≤ 2 := by split <;> simp
  rw [show JaY (a :: l) = (if a = 32 then [92, 115] else [a]) ++ JaY l from by simp [JaY], List.length_append, List.length_cons]; omega
theorem Jb0 : ∀ l : List UInt8, (JaY l).length = l.length + l.count 32
 | [] => rfl
 | a :: l => by
  have := Jb0 l
  rw [show JaY (a :: l) = (if a = 32 then [92, 115] else [a]) ++ JaY l from by simp [JaY], List.length_append, this, List.length_cons, List.count_cons]
  by_cases h : a = 32
  ·rw [if_pos h]; simp [h]; omega
  ·rw [if_neg h]; simp [h]; omega
theorem Joq : ∀ {l : List UInt8}, 32 ∈ l → ∃ pre rest, l = pre ++ 32 :: rest ∧ 32 ∉ pre ∧ l.takeWhile (· ≠ 32) = pre
 | [], h => by simp at h
 | a :: l, h => by
  by_cases ha : a = 32
  ·subst ha; exact ⟨[], l, rfl, by simp, by simp⟩
  ·have hl : 32 ∈ l := by
    rcases List.mem_cons.1 h with h | h
    ·exact absurd h.symm ha
    ·exact h
   obtain ⟨p, r, h1, h2, h3⟩ := Joq hl
   refine ⟨a :: p, r, by rw [h1]; rfl, fun hm => ?_, by rw [List.takeWhile_cons, if_pos (by simpa using ha), h3]⟩
   rcases List.mem_cons.1 hm with hm | hm
   ·exact ha hm.symm
   ·exact h2 hm
theorem JnF {l : List UInt8} (h : 0 < l.count 32) : ∃ pre rest, l = pre ++ 32 :: rest ∧ 32 ∉ pre ∧ Lib.indexByte l 32 = (pre.length : Int) ∧ rest.count 32 + 1 = l.count 32 := by
 have hm : (32 : UInt8) ∈ l := List.count_pos_iff.1 h
 obtain ⟨p, r, h1, h2, h3⟩ := Joq hm
 refine ⟨p, r, h1, h2, by rw [Jbl, if_pos hm, h3], ?_⟩
 rw [h1, List.count_append, List.count_cons, List.count_eq_zero.2 h2]
 simp
theorem QT : Jab Tryz.prog 9 (.str (S.ofList [32])) = some (.int .i64 1) := by simp only [Jab, Tryz.underlying9]; rfl
theorem Jap : Jab Tryz.prog 9 (.str (S.ofList [92, 115])) = some (.int .i64 2) := by simp only [Jab, Tryz.underlying9]; rfl
theorem JnG {s : S} : (S.ofList [32]).same s = true ↔ s.toList = [32] := by rw [S.same_eq, S.toList_ofList, beq_iff_eq]; exact ⟨Eq.symm, Eq.symm⟩
variable [Memo] [NY]
set_option maxHeartbeats 1000000 in
set_option maxRecDepth 100000 in
theorem Jpq (gl : Gl) (st : St) (s : S) :
  Says Tryz.prog gl 98 [.str s, .str (S.ofList [32])] st (fun v st' => v = .int .i64 (Lib.indexByte s.toList 32) ∧ Sm st st') := by
 refine JS (NY.no _ rfl rfl rfl _ _) Tryz.func98 rfl (by kernel_rfl) fun R hR K gr gn => ?_
 generalize hfr : Jx gl [.str s, .str (S.ofList [32])] = fr
 have hF : Fs gl [(0, .str s), (1, .str (S.ofList [32]))] fr := by subst hfr; simp [Fs]
 simp only [Fs] at hF
 clear hfr
 have hc := J6 (P := Tryz.prog) (ih := ihCall (W Tryz.prog)) (gl := gl) (args := [.str s, .int .u8 ((32 : Nat) : Int)]) (st := st) (show Qx Tryz.prog 58 = true by kernel_rfl)
 rw [Q1 (JdD gl st s 32)] at hc
 have hc : JaM Tryz.prog (ihCall (W Tryz.prog)) gl 58 [.str s, .int .u8 32] st = .val (.int .i64 (Lib.indexByte s.toList 32)) st := hc
 have hix : Jao Tryz.prog 9 (.str (S.ofList [32])) (.int .i64 0) = some (.int .u8 32) := by kernel_rfl
 have e0 : ∀ kk, Jn Tryz.prog kk .eql 3 (.int .i64 1) (.int .i64 0) = some (.bool false) := fun kk => Jb4
 have e1 : ∀ kk, Jn Tryz.prog kk .eql 3 (.int .i64 1) (.int .i64 1) = some (.bool true) := fun kk => Jb4
 obtain ⟨B, hB⟩ : ∃ b, (S.ofList [32]).same s = b := ⟨_, rfl⟩
 refine Ks_ (Ka_ (gs := [none]) fun K1 gK => ?_)
 simp (disch := omega) []
 refine gK _ _ (Ks_ (Ka_ (gs := [none, none, none]) fun K1 gK => ?_))
 simp (disch := omega) [hF, QT]
 refine gK _ _ (Ks_ ?_)
 refine Kb_ fun K1 gn1 gx1 go1 => ?_
 have gr1 := fun fr st h => go1 AE.ret fr st trivial (gr fr st h)
 refine Ks_ (Ka_ (gs := [none, none, none, some (some 19, false), some (some 19, false), some (some 19, false), none, none]) fun K1 gK => ?_)
 simp (disch := omega) [hF, e0, hB]
 refine gK _ _ ?_
 cases B with
 | true =>
  refine Kt_ (by simp (disch := omega) []) ?_
  have hl := JnG.1 hB
  have hz : Lib.indexByte s.toList 32 = 0 := by rw [hl]; rfl
  refine Ks_ (Ka_ (gs := [none]) fun K1 gK => ?_)
  simp (disch := omega) []
  refine gK _ _ (Kq_ (gr1 _ _ ?_))
  simp [JC, Tryz.f98, hF]
  refine hR _ _ ?_
  exact ⟨by rw [hz], rfl⟩
 | false =>
  refine Kf_ (by simp (disch := omega) []) (Ks_ (Ka_ (gs := [none, none, none]) fun K1 gK => ?_))
  simp (disch := omega) [e1]
  refine gK _ _ (Kt_ (by simp (disch := omega) []) (Ks_ (Ka_ (gs := [none, none, none, none, none]) fun K1 gK => ?_)))
  simp (disch := omega) [hF, hc, hix]
  refine gK _ _ (Kq_ (gr1 _ _ ?_))
  simp [JC, Tryz.f98, hF]
  refine hR _ _ ?_
  exact ⟨rfl, rfl⟩
set_option maxRecDepth 100000 in
theorem Jk2 (gl : Gl) (st : St) (s : S) :
  Says Tryz.prog gl 92 [.str s, .str (S.ofList [32])] st (fun v st' => v = .int .i64 (Lib.indexByte s.toList 32) ∧ Sm st st') := by
 refine JS (NY.no _ rfl rfl rfl _ _) Tryz.func92 rfl (by kernel_rfl) fun R hR K gr gn => ?_
 generalize hfr : Jx gl [.str s, .str (S.ofList [32])] = fr
 have hF : Fs gl [(0, .str s), (1, .str (S.ofList [32]))] fr := by subst hfr; simp [Fs]
 simp only [Fs] at hF
 clear hfr
 obtain ⟨v, s1, hc, rfl, hs1⟩ := Says.use (Jpq gl st s)
 rw [show s1 = st from hs1] at hc
 refine Ks_ (Ka_ (gs := [none]) fun K1 gK => ?_)
 simp (disch := omega) []
 refine gK _ _ (Ks_ (Ka_ (gs := [none, none, none, none]) fun K1 gK => ?_))
 simp (disch := omega) [hF, hc]
 refine gK _ _ (Kq_ (gr _ _ ?_))
 simp [JC, Tryz.f92, hF]
 refine hR _ _ ?_
 exact ⟨rfl, rfl⟩
variable [NZ] [NO]
set_option maxHeartbeats 4000000 in
set_option maxRecDepth 100000 in
omit [NZ] [NO] in
theorem Jl0 (gl : Gl) (st : St) (s : S) (hs : s.n ≤ 300000) :
  Says Tryz.prog gl 75 [.str s, .str (S.ofList [32]), .str (S.ofList [92, 115]), .int .i64 (-1)] st (fun v st' => (∃ t : S, v = .str t ∧ t.toList = JaY s.toList) ∧ Keep st st') := by
 refine JS (NY.no _ rfl rfl rfl _ _) Tryz.func75 rfl (by kernel_rfl) fun R hR K gr gn => ?_
 generalize hfr : Jx gl [.str s, .str (S.ofList [32]), .str (S.ofList [92, 115]), .int .i64 (-1)] = fr
 have hF : Fs gl [(0, .str s), (1, .str (S.ofList [32])), (2, .str (S.ofList [92, 115])), (3, .int .i64 (-1))] fr := by subst hfr; simp [Fs]
 simp only [Fs] at hF
 clear hfr
 have ls := Jar Tryz.underlying9 (s := s)
 obtain ⟨v, s1, hc, rfl, hs1⟩ := Says.use (Jgu gl st s (S.ofList [32]) rfl)
 rw [show s1 = st from hs1] at hc
 clear hs1
 have hat : UInt8.ofNat ((S.ofList [32]).at 0) = 32 := rfl
 rw [hat] at hc
 have e0 : ∀ kk, Jn Tryz.prog kk .eql 9 (.str (S.ofList [32])) (.str (S.ofList [92, 115])) = some (.bool false) := fun kk => by cases kk <;> kernel_rfl
 have e1 : ∀ kk, Jn Tryz.prog kk .eql 3 (.int .i64 (-1)) (.int .i64 0) = some (.bool false) := fun kk => Jb4
 have e2 : ∀ kk, Jn Tryz.prog kk .lss 3 (.int .i64 (-1)) (.int .i64 0) = some (.bool true) := fun kk => JaO
 have hcl : s.toList.count 32 ≤ s.n := by rw [← S.len]; exact List.count_le_length
 obtain ⟨m, hm⟩ : ∃ m, s.toList.count 32 = m := ⟨_, rfl⟩
 rw [hm] at hc hcl
 have hsm : (S.ofList [32]).same (S.ofList [92, 115]) = false := by kernel_rfl
 refine Ks_ (Ka_ (gs := [none]) fun K1 gK => ?_)
 simp (disch := omega) []
 refine gK _ _ (Ks_ (Ks_ (Ka_ (gs := [none, none, none, none, some (some 19, false), some (some 19, false), none]) fun K1 gK => ?_)))
 simp (disch := omega) [hF, e0, e1]
 refine gK _ _ (Kf_ (by simp (disch := omega) []) (Kk_ (Ks_ (Ks_ (Ka_ (gs := [none, none, none, none]) fun K1 gK => ?_)))))
 simp (disch := omega) [hF, hc]
 refine gK _ _ (Ks_ (Ka_ (gs := [none, none]) fun K1 gK => ?_))
 simp (disch := omega) []
 refine gK _ _ ?_
 by_cases h0 : m = 0
 ·
  refine Kt_ (by simp (disch := omega) [h0]) (Ks_ (Ka_ (gs := [none, none]) fun K1 gK => ?_))
  simp (disch := omega) [hF, h0]
  refine gK _ _ (Kq_ (gr _ _ ?_))
  simp [JC, Tryz.f75, hF]
  refine hR _ _ ?_
  exact ⟨⟨s, rfl, by rw [Jfu (List.count_eq_zero.1 (by omega))]⟩, .refl _⟩
 ·
  refine Kf_ (by simp (disch := omega) [h0]) ?_
  obtain ⟨q, hq⟩ : ∃ q, q = st.new (.cells [.nilp, .nils] 42 true (some 0)) := ⟨_, rfl⟩
  have kq : Keep st q := by rw [hq]; exact (Keep.refl st).new' _
  have cq : q.ctr = st.ctr + 1 := by rw [hq]; rfl
  have bq : q.box.get st.ctr = some (.cells [.nilp, .nils] 42 true (some 0)) := by rw [hq, QC, if_pos rfl]
  have hfq : ({ ctr := st.ctr + 1, box := st.box.put st.ctr (.cells [.nilp, .nils] 42 true (some 0)) } : St) = q := by rw [hq]; rfl
  clear hq
  obtain ⟨v, q1, hg, hbl, hct, hbx⟩ := Says.use (JiK gl q st.ctr (s.n + m) (by omega) (by omega) (by omega) bq)
  have hlo : Low st.ctr q q1 := ⟨hct, fun i hi => hbx i (by omega) (by omega)⟩
  have kq1 : Keep st q1 := hlo.keep kq (Nat.le_refl _)
  have hN : (((s.n + m : Nat)) : Int) = (s.n : Int) + (m : Int) * 1 := by omega
  rw [hN] at hg
  have hmul : ∀ kk, Jn Tryz.prog kk .mul 3 (.int .i64 (m : Int)) (.int .i64 (2 - 1)) = some (.int .i64 ((m : Int) * 1)) := fun kk => by rw [Qs, Jr (by omega) (by omega)]; rfl
  have hmul' : ∀ kk, Jn Tryz.prog kk .mul 3 (.int .i64 (m : Int)) (.int .i64 1) = some (.int .i64 ((m : Int) * 1)) := fun kk => by rw [Qs, Jr (by omega) (by omega)]
  have e3 : ∀ kk, Jn Tryz.prog kk .gtr 3 (.int .i64 1) (.int .i64 0) = some (.bool true) := fun kk => Jb3
  simp only [Int.mul_one] at hg hmul hmul'
  refine Ks_ (Ka_ (gs := [none, none, none, some (some 32, false), some (some 32, false), some (some 32, false), none]) fun K1 gK => ?_)
  simp (disch := omega) [hF, e2, h0]
  refine gK _ _ (Kt_ (by simp (disch := omega) []) (Ka_ (gs := [none, none]) fun K1 gK => ?_))
  simp (disch := omega) []
  refine gK _ _ (Ks_ (Ka_ (gs := [none]) fun K1 gK => ?_))
  simp (disch := omega) [Jb8, hfq, JV, Qn]
  refine gK _ _ (Ks_ (Ka_ (gs := [none, none, none, none, none, none, none, none, none, none, none]) fun K1 gK => ?_))
  simp (disch := omega) [hF, ls, QT, Jap, hg, hmul']
  refine gK _ _ (Ks_ (Ka_ (gs := [none]) fun K1 gK => ?_))
  simp (disch := omega) []
  refine gK _ _ (Ks_ (Ks_ (Ka_ (gs := [none, none, none]) fun K1 gK => ?_)))
  simp (disch := omega) [hF, QT, e3]
  refine gK _ _ (Kt_ (by simp (disch := omega) []) (Ks_ (Ka_ (gs := [none, none]) fun K1 gK => ?_)))
  simp (disch := omega) []
  refine gK _ _ ?_
  refine Kl_ (m) (fun i fr st' => ∃ (dn rs : List UInt8), Fs gl [(0, .str s), (1, .str (S.ofList [32])), (2, .str (S.ofList [92, 115])), (10, .ptr st.ctr 0), (11, .int .i64 (dn.length : Int)), (52, .int .i64 (m : Int)), (53, .int .i64 (i : Int))] fr ∧ i ≤ m ∧ s.toList = dn ++ rs ∧ rs.count 32 + i = m ∧ Bld st.ctr st.ctr st' (JaY dn) ∧ Keep st st') (0) (fun fr st' => ∃ (dn rs : List UInt8), Fs gl [(0, .str s), (10, .ptr st.ctr 0), (11, .int .i64 (dn.length : Int))] fr ∧ s.toList = dn ++ rs ∧ rs.count 32 = 0 ∧ Bld st.ctr st.ctr st' (JaY dn) ∧ Keep st st') ?_ ?_ ?_ ?_
  ·exact ⟨[], s.toList, by simp [Fs, hF], Nat.zero_le _, rfl, by omega, hbl, kq1⟩
  ·rintro i fr st' ⟨dn, rs, _, hi, hdr, hcn, hbw, hk⟩
   omega
  ·as_aux_lemma =>
   clear hF
   rintro i fr st' ⟨dn, rs, hF, hi, hdr, hcn, hbw, hk⟩ K2 gk2 gx2 go2
   simp only [Fs] at hF
   have hlen : dn.length + rs.length = s.n := by rw [← S.len, hdr, List.length_append]
   have hdc := Jb0 dn
   have hdm : dn.count 32 + rs.count 32 = m := by rw [← List.count_append, ← hdr, hm]
   refine Ks_ (Ka_ (gs := [none]) fun K1 gK => ?_)
   simp (disch := omega) [hF]
   refine gK _ _ (Ks_ ?_)
   by_cases hlt : i < m
   ·
    refine Kt_ (by simp (disch := omega) [hlt]) ?_
    obtain ⟨pre, rest, hpr, hnp, hix, hrc⟩ := JnF (l := rs) (by omega)
    have hsl1 := Jbe (P := Tryz.prog) (k := .i64) Tryz.underlying9 (s := s) (lo := dn.length) (by omega)
    have htl1 : (s.cut dn.length s.n).toList = rs := by
     rw [S.toList_cut s (by omega) (Nat.le_refl _), hdr, List.drop_left, List.take_of_length_le (by omega)]
    obtain ⟨v, s2, hci, rfl, hs2⟩ := Says.use (Jk2 gl st' (s.cut dn.length s.n))
    rw [show s2 = st' from hs2, htl1, hix] at hci
    clear hs2
    have hpl : dn.length + pre.length + 1 + rest.length = s.n := by rw [← hlen, hpr]; simp; omega
    have hsl2 : Jan Tryz.prog 9 (.str s) (some (.int .i64 (dn.length : Int))) (some (.int .i64 ((dn.length : Int) + (pre.length : Int)))) = some (.str (s.cut dn.length (dn.length + pre.length))) := Jc4 (hi := dn.length + pre.length) Tryz.underlying9 (by omega) (by omega)
    have htl2 : (s.cut dn.length (dn.length + pre.length)).toList = pre := by
     rw [S.toList_cut s (by omega) (by omega), hdr, List.drop_left, show dn.length + pre.length - dn.length = pre.length by omega, hpr, List.take_left]
    have hpc : pre.count 32 = 0 := List.count_eq_zero.2 hnp
    obtain ⟨v, s3, hw1, hb3, hl3⟩ := Says.use (Jcw gl st' st.ctr st.ctr (JaY dn) (s.cut dn.length (dn.length + pre.length)) hbw (by rw [Jgd]; omega))
    rw [htl2] at hb3
    obtain ⟨v', s4, hw2, hb4, hl4⟩ := Says.use (Jcw gl s3 st.ctr st.ctr (JaY dn ++ pre) (S.ofList [92, 115]) hb3 (by rw [List.length_append, Qu]; simp; omega))
    have hadd : (dn.length : Int) + (pre.length : Int) + 1 = (dn.length : Int) + ((pre.length : Int) + 1) := by omega
    refine Kk_ (Ks_ ?_)
    refine Kb_ fun K3 gn3 gx3 go3 => ?_
    refine Ks_ (Ka_ (gs := [none, none, none, none, none, none, none, none]) fun K1 gK => ?_)
    simp (disch := omega) [hF, hlt, hsl1, hci]
    refine gK _ _ (Ks_ (Ka_ (gs := [none, none, none, none, none]) fun K1 gK => ?_))
    simp (disch := omega) [hF, hsl2, hw1]
    refine gK _ _ (Ks_ (Ka_ (gs := [none, none]) fun K1 gK => ?_))
    simp (disch := omega) [hF, hw2]
    refine gK _ _ (Ka_ (gs := [none, none, none, none, none]) fun K1 gK => ?_)
    simp (disch := omega) [hF, QT]
    refine gK _ _ (gn3 _ _ (Ka_ (gs := [none, none]) fun K1 gK => ?_))
    simp (disch := omega) [hF]
    refine gK _ _ ?_
    refine gk2 (i + 1) _ _ (by omega) ⟨dn ++ (pre ++ [32]), rest, by simp [Fs, hF, hadd], by omega, by rw [hdr, hpr]; simp, by omega, by have e : JaY (dn ++ (pre ++ [32])) = JaY dn ++ pre ++ [92, 115] := by { rw [Jc0, Jc0, Jfu hnp, List.append_assoc]; rfl }; rw [e]; rw [S.toList_ofList] at hb4; exact hb4, (hl3.trans hl4).keep hk (Nat.le_refl _)⟩
   ·
    refine Kf_ (by simp (disch := omega) [hlt]) ?_
    exact Kx_ (gx2 _ _ ⟨dn, rs, by simp [Fs, hF, hlt], hdr, by omega, hbw, hk⟩)
  ·as_aux_lemma =>
   clear hF
   rintro fr st' ⟨dn, rs, hF, hdr, hcn, hbw, hk⟩
   simp only [Fs] at hF
   have hlen : dn.length + rs.length = s.n := by rw [← S.len, hdr, List.length_append]
   have hdc := Jb0 dn
   have hdm : dn.count 32 + rs.count 32 = m := by rw [← List.count_append, ← hdr, hm]
   have hsl1 := Jbe (P := Tryz.prog) (k := .i64) Tryz.underlying9 (s := s) (lo := dn.length) (by omega)
   have htl1 : (s.cut dn.length s.n).toList = rs := by
    rw [S.toList_cut s (by omega) (Nat.le_refl _), hdr, List.drop_left, List.take_of_length_le (by omega)]
   obtain ⟨v, s3, hw1, hb3, hl3⟩ := Says.use (Jcw gl st' st.ctr st.ctr (JaY dn) (s.cut dn.length s.n) hbw (by rw [Jgd]; omega))
   rw [htl1] at hb3
   have hfin : JaY dn ++ rs = JaY s.toList := by rw [hdr, Jc0, Jfu (List.count_eq_zero.1 hcn)]
   rw [hfin] at hb3
   obtain ⟨v, s4, hw2, ⟨t, rfl, ht⟩, hl4⟩ := Says.use (JeR gl s3 st.ctr st.ctr (JaY s.toList) hb3 (by have := Jb0 s.toList; rw [S.len] at this; omega) (by intro e; have := Jb0 s.toList; rw [e, S.len] at this; simp at this; omega))
   refine Ks_ (Ka_ (gs := [none, none, none, none]) fun K1 gK => ?_)
   simp (disch := omega) [hF, hsl1, hw1]
   refine gK _ _ (Ks_ (Ka_ (gs := [none, none]) fun K1 gK => ?_))
   simp (disch := omega) [hF, hw2]
   refine gK _ _ (Kq_ (gr _ _ ?_))
   simp [JC, Tryz.f75, hF]
   refine hR _ _ ?_
   exact ⟨⟨t, rfl, ht⟩, (hl3.trans hl4).keep hk (Nat.le_refl _)⟩
set_option maxRecDepth 100000 in
omit [NZ] [NO] in
theorem Jij (gl : Gl) (st : St) (s : S) (hs : s.n ≤ 300000) :
  Says Tryz.prog gl 63 [.str s, .str (S.ofList [32]), .str (S.ofList [92, 115])] st (fun v st' => (∃ t : S, v = .str t ∧ t.toList = JaY s.toList) ∧ Keep st st') := by
 refine JS (NY.no _ rfl rfl rfl _ _) Tryz.func63 rfl (by kernel_rfl) fun R hR K gr gn => ?_
 generalize hfr : Jx gl [.str s, .str (S.ofList [32]), .str (S.ofList [92, 115])] = fr
 have hF : Fs gl [(0, .str s), (1, .str (S.ofList [32])), (2, .str (S.ofList [92, 115]))] fr := by subst hfr; simp [Fs]
 simp only [Fs] at hF
 clear hfr
 obtain ⟨v, s1, hc, ⟨t, rfl, ht⟩, hk⟩ := Says.use (Jl0 gl st s hs)
 refine Ks_ (Ka_ (gs := [none]) fun K1 gK => ?_)
 simp (disch := omega) []
 refine gK _ _ (Ks_ (Ka_ (gs := [none, none, none, none, none]) fun K1 gK => ?_))
 simp (disch := omega) [hF, hc]
 refine gK _ _ (Kq_ (gr _ _ ?_))
 simp [JC, Tryz.f63, hF]
 refine hR _ _ ?_
 exact ⟨⟨t, rfl, ht⟩, hk⟩
attribute [local simp] J7 JH Jt Ju
set_option maxRecDepth 100000 in
omit [NZ] in
theorem Jl1 (gl : Gl) (st : St) (s : S) (hs : s.n ≤ 100000) :
  Says Tryz.prog gl 50 [.str s] st (fun v st' => (∃ t : S, v = .str t ∧ t.toList = esc s.toList) ∧ Keep st st') := by
 refine JS (NY.no _ rfl rfl rfl _ _) Tryz.func50 rfl (by kernel_rfl) fun R hR K gr gn => ?_
 generalize hfr : Jx gl [.str s] = fr
 have hF : Fs gl [(0, .str s)] fr := by subst hfr; simp [Fs]
 simp only [Fs] at hF
 clear hfr
 obtain ⟨sA, hsA⟩ : ∃ q, q = st.new (.cells oldsV 9 true (some 0)) := ⟨_, rfl⟩
 have kA : Keep st sA := by rw [hsA]; exact (Keep.refl st).new' _
 have cA : sA.ctr = st.ctr + 1 := by rw [hsA]; rfl
 have bA : sA.box.get st.ctr = some (.cells oldsV 9 true (some 0)) := by rw [hsA, QC, if_pos rfl]
 have hfA : ({ ctr := st.ctr + 1, box := st.box.put st.ctr (.cells oldsV 9 true (some 0)) } : St) = sA := by rw [hsA]; rfl
 clear hsA
 obtain ⟨v, s2, hcn, rfl, hraw, hk2⟩ := Says.use (Jlo gl sA st.ctr (by omega) bA)
 obtain ⟨v, s3, hcr, ⟨t, rfl, ht⟩, ri', hri, hids, hct, hbx⟩ := Says.use (JjV gl s2 (sA.ctr + 1) (.raw sA.ctr) s hs hraw)
 have hc2 := hk2.ctr
 have k3 : Keep st s3 := ⟨by omega, fun i hi => by rw [hbx i (by omega) (by omega)]; exact (kA.trans hk2).box i hi⟩
 have hoo : oldsV.all Qn = true := rfl
 refine Ks_ (Ka_ (gs := [none]) fun K1 gK => ?_)
 simp (disch := omega) []
 refine gK _ _ (Ks_ (Ka_ (gs := [none, none, none, none, none]) fun K1 gK => ?_))
 simp (disch := omega) [hF, Jme, hfA, hcn, hcr, hoo, Jc]
 refine gK _ _ (Kq_ (gr _ _ ?_))
 simp [JC, Tryz.f50, hF]
 refine hR _ _ ?_
 exact ⟨⟨t, rfl, ht⟩, k3⟩
set_option maxRecDepth 100000 in
omit [NZ] in
theorem JnH (gl : Gl) (st : St) (s : S) (hs : s.n ≤ 100000) :
  Says Tryz.prog gl 48 [.str s] st (fun v st' => (∃ t : S, v = .str t ∧ t.toList = JaY (esc s.toList)) ∧ Keep st st') := by
 refine JS (NY.no _ rfl rfl rfl _ _) Tryz.func48 rfl (by kernel_rfl) fun R hR K gr gn => ?_
 generalize hfr : Jx gl [.str s] = fr
 have hF : Fs gl [(0, .str s)] fr := by subst hfr; simp [Fs]
 simp only [Fs] at hF
 clear hfr
 obtain ⟨v, s1, hc1, ⟨t, rfl, ht⟩, hk1⟩ := Says.use (Jl1 gl st s hs)
 have hel := JbC s.toList
 rw [← ht, S.len, S.len] at hel
 obtain ⟨v, s2, hc2, ⟨z, rfl, hz⟩, hk2⟩ := Says.use (Jij gl s1 t (by omega))
 refine Ks_ (Ka_ (gs := [none]) fun K1 gK => ?_)
 simp (disch := omega) []
 refine gK _ _ (Ks_ (Ka_ (gs := [none, none, none, none]) fun K1 gK => ?_))
 simp (disch := omega) [hF, hc1, hc2]
 refine gK _ _ (Kq_ (gr _ _ ?_))
 simp [JC, Tryz.f48, hF]
 refine hR _ _ ?_
 exact ⟨⟨z, rfl, by rw [hz, ht]⟩, hk1.trans hk2⟩
end Go.Vm
