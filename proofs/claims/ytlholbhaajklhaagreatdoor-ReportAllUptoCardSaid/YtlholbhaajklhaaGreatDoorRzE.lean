/- Texts without line's ends, paths without colons: by the program, by the document. -/
import Derived.Test.YtlholbhaajklhaaGreatDoorRzD
import Derived.Test.YtlholbhaajklhaaGreatDoorRzB
namespace Go.Vm
open Go Go.Proofs Go.Pa
attribute [local simp] OkS QL OkG Qu QB OkD Qd Qn JS Jh Jn vop Ju JG ev evs toV Jm Fr.dsTo Fr.glTo Fr.toNone Jj Jk Jl Qj QN Jc JL Jv V.undef J5 JV Qo Qg Qh Qk Qp Qq JU J8 Qr Ql JX Qs JC JF JE Jz JM Jo JW J2 JK Qb
def JaT (l : List UInt8) : List UInt8 := l.flatMap fun b => if b = 58 then [92, 58] else [b]
theorem JdC (a b : List UInt8) : JaT (a ++ b) = JaT a ++ JaT b := by simp [JaT]
theorem Jf1 : ∀ {l : List UInt8}, 58 ∉ l → JaT l = l
 | [], _ => rfl
 | a :: l, h => by
  have h1 : a ≠ 58 := fun e => h (by simp [e])
  have h2 : 58 ∉ l := fun e => h (by simp [e])
  show (if a = 58 then [92, 58] else [a]) ++ JaT l = a :: l
  rw [if_neg h1, Jf1 h2]; rfl
theorem JgK : ∀ l : List UInt8, (JaT l).length ≤ 2 * l.length
 | [] => Nat.le_refl _
 | a :: l => by
  have := JgK l
  have h1 : ((if a = 58 then [92, 58] else [a]) : List UInt8).length ≤ 2 := by split <;> simp
  rw [show JaT (a :: l) = (if a = 58 then [92, 58] else [a]) ++ JaT l from by simp [JaT], List.length_append, List.length_cons]; omega
theorem Jb7 : ∀ l : List UInt8, (JaT l).length = l.length + l.count 58
 | [] => rfl
 | a :: l => by
  have := Jb7 l
  rw [show JaT (a :: l) = (if a = 58 then [92, 58] else [a]) ++ JaT l from by simp [JaT], List.length_append, this, List.length_cons, List.count_cons]
  by_cases h : a = 58
  ·rw [if_pos h]; simp [h]; omega
  ·rw [if_neg h]; simp [h]; omega
theorem Jnf : ∀ {l : List UInt8}, 58 ∈ l → ∃ pre rest, l = pre ++ 58 :: rest ∧ 58 ∉ pre ∧ l.takeWhile (· ≠ 58) = pre
 | [], h => by simp at h
 | a :: l, h => by
  by_cases ha : a = 58
  ·subst ha; exact ⟨[], l, rfl, by simp, by simp⟩
  ·have hl : 58 ∈ l := by
    rcases List.mem_cons.1 h with h | h
    ·exact absurd h.symm ha
    ·exact h
   obtain ⟨p, r, h1, h2, h3⟩ := Jnf hl
   refine ⟨a :: p, r, by rw [h1]; rfl, fun hm => ?_, by rw [List.takeWhile_cons, if_pos (by simpa using ha), h3]⟩
   rcases List.mem_cons.1 hm with hm | hm
   ·exact ha hm.symm
   ·exact h2 hm
theorem Jng {l : List UInt8} (h : 0 < l.count 58) : ∃ pre rest, l = pre ++ 58 :: rest ∧ 58 ∉ pre ∧ Lib.indexByte l 58 = (pre.length : Int) ∧ rest.count 58 + 1 = l.count 58 := by
 have hm : (58 : UInt8) ∈ l := List.count_pos_iff.1 h
 obtain ⟨p, r, h1, h2, h3⟩ := Jnf hm
 refine ⟨p, r, h1, h2, by rw [JbK, if_pos hm, h3], ?_⟩
 rw [h1, List.count_append, List.count_cons, List.count_eq_zero.2 h2]
 simp
theorem QD : Q2 Tryz.prog 9 (.str (S.ofList [58])) = some (.int .i64 1) := by simp only [Q2, Tryz.underlying9]; rfl
theorem Q3 : Q2 Tryz.prog 9 (.str (S.ofList [92, 58])) = some (.int .i64 2) := by simp only [Q2, Tryz.underlying9]; rfl
variable [Memo] [NY]
set_option maxRecDepth 100000 in
theorem JgL (gl : Gl) (st : St) (s : S) (hs : s.n ≤ 100000) :
  Says Tryz.prog gl 29 [.str s] st (fun v st' => (∃ t : S, v = .str t ∧ t.toList = esc s.toList) ∧ Sm st st') := by
 refine Qa (NY.no _ rfl rfl rfl _ _) Tryz.func29 rfl (by kernel_rfl) fun R hR K gr gn => ?_
 generalize hfr : Jy gl [.str s] = fr
 have hF : Fs gl [(0, .str s)] fr := by subst hfr; simp [Fs]
 simp only [Fs] at hF
 clear hfr
 have ls := QT Tryz.underlying9 (s := s)
 refine Ks_ (Ka_ (gs := [none]) fun K1 gK => ?_)
 simp (disch := omega) []
 refine gK _ _ (Ks_ (Ka_ (gs := [none]) fun K1 gK => ?_))
 simp (disch := omega) []
 refine gK _ _ (Ks_ (Ks_ (Ka_ (gs := [none]) fun K1 gK => ?_)))
 simp (disch := omega) []
 refine gK _ _ ?_
 refine Kl_ (s.n) (fun i fr st' => ∃ (acc : S), Fs gl [(0, .str s), (3, .str acc), (4, .int .i64 (i : Int))] fr ∧ i ≤ s.n ∧ acc.toList = esc (s.toList.take i) ∧ st = st') (0) (fun fr st' => ∃ (acc : S), Fs gl [(3, .str acc)] fr ∧ acc.toList = esc s.toList ∧ st = st') ?_ ?_ ?_ ?_
 ·exact ⟨⟨0, 0⟩, by simp [Fs, hF, S.ofList, enc],  Nat.zero_le _, rfl, rfl⟩
 ·rintro i fr st' ⟨acc, _, hi, hacc, rfl⟩
  omega
 ·as_aux_lemma =>
  clear hF
  rintro i fr st' ⟨acc, hF, hi, hacc, rfl⟩ K1 gk1 gx1 go1
  simp only [Fs] at hF
  refine Ks_ (Ks_ (Ka_ (gs := [none, none, none, none]) fun K1 gK => ?_))
  simp (disch := omega) [hF, ls]
  refine gK _ _ ?_
  by_cases hlt : i < s.n
  ·
   refine Kt_ (by simp (disch := omega) [hlt]) ?_
   have hix := Q8 (P := Tryz.prog) (k := .i64) Tryz.underlying9 hlt
   have han : acc.n ≤ 2 * i := by
    have h1 := congrArg List.length hacc
    have h2 := QK (s.toList.take i)
    rw [S.len] at h1
    rw [List.length_take, S.len] at h2
    omega
   have ad1 : ∀ kk, Jd Tryz.prog kk .add 9 (.str acc) (.str (S.ofList [92, 110])) = some (.str (acc.app (S.ofList [92, 110]))) := fun kk => JA (by rw [Jf]; simp; omega)
   have ad2 : ∀ kk, Jd Tryz.prog kk .add 9 (.str acc) (.str (S.ofList [92, 92])) = some (.str (acc.app (S.ofList [92, 92]))) := fun kk => JA (by rw [Jf]; simp; omega)
   have ad3 : ∀ kk, Jd Tryz.prog kk .add 9 (.str acc) (.str (s.cut i (i + 1))) = some (.str (acc.app (s.cut i (i + 1)))) := fun kk => JA (by rw [Jhr]; omega)
   have hsl : Jac Tryz.prog 9 (.str s) (some (.int .i64 (i : Int))) (some (.int .i64 ((i : Int) + 1))) = some (.str (s.cut i (i + 1))) := Jcg (hi := i + 1) Tryz.underlying9 (by omega) (by omega)
   have hcl := S.at_lt s i
   refine Kk_ (Ks_ ?_)
   refine Kb_ fun K2 gn2 gx2 go2 => ?_
   refine Ks_ (Ka_ (gs := [none, none, none]) fun K1 gK => ?_)
   simp (disch := omega) [hF, hlt, hix]
   refine gK _ _ ?_
   refine Km_ (fun fr st' => ∃ (acc : S), Fs gl [(0, .str s), (3, .str acc), (4, .int .i64 (i : Int))] fr ∧ acc.toList = esc (s.toList.take (i + 1)) ∧ st = st') ?_ ?_
   ·as_aux_lemma =>
    intro K3 gm3 go3
    refine Kb_ fun K4 gn4 gx4 go4 => ?_
    refine Ks_ (Ka_ (gs := [none, none]) fun K1 gK => ?_)
    simp (disch := omega) []
    refine gK _ _ ?_
    by_cases h10 : s.at i = 10
    ·
     refine Kt_ (by simp (disch := omega) [h10]) (Ka_ (gs := [none, none, none]) fun K1 gK => ?_)
     simp (disch := omega) [hF, ad1, h10]
     refine gK _ _ (gn4 _ _ ?_)
     exact gm3 _ _ ⟨acc.app (S.ofList [92, 110]), by simp [Fs, hF], by rw [S.toList_app, hacc, Jcv s hlt, Jcl, h10, S.toList_ofList]; rfl, rfl⟩
    ·
     refine Kf_ (by simp (disch := omega) [h10]) (Ks_ (Ka_ (gs := [none, none]) fun K1 gK => ?_))
     simp (disch := omega) [h10]
     refine gK _ _ ?_
     by_cases h92 : s.at i = 92
     ·
      refine Kt_ (by simp (disch := omega) [h92]) (Ka_ (gs := [none, none, none]) fun K1 gK => ?_)
      simp (disch := omega) [hF, ad2, h92]
      refine gK _ _ (gn4 _ _ ?_)
      exact gm3 _ _ ⟨acc.app (S.ofList [92, 92]), by simp [Fs, hF], by rw [S.toList_app, hacc, Jcv s hlt, Jcl, h92, S.toList_ofList]; rfl, rfl⟩
     ·
      refine Kf_ (by simp (disch := omega) [h92]) (Ka_ (gs := [none, none, none, none, none, none, none, none]) fun K1 gK => ?_)
      simp (disch := omega) [hF, ad3, hsl, h92]
      refine gK _ _ (gn4 _ _ ?_)
      exact gm3 _ _ ⟨acc.app (s.cut i (i + 1)), by simp [Fs, hF], by rw [S.toList_app, hacc, Jcv s hlt, Jcl, Jil hlt]; simp [esc, JdO hcl h10 h92], rfl⟩
   ·as_aux_lemma =>
    clear hF
    rintro fr st' ⟨acc, hF, hacc, rfl⟩
    simp only [Fs] at hF
    refine gn2 _ _ (Ka_ (gs := [none, none, none]) fun K1 gK => ?_)
    simp (disch := omega) [hF]
    refine gK _ _ ?_
    refine gk1 (i + 1) _ _ (by omega) ⟨acc, by simp [Fs, hF], by omega, hacc, rfl⟩
  ·
   refine Kf_ (by simp (disch := omega) [hlt]) ?_
   exact Kx_ (gx1 _ _ ⟨acc, by simp [Fs, hF, hlt], by rw [hacc, List.take_of_length_le (by rw [S.len]; omega)], rfl⟩)
 ·as_aux_lemma =>
  clear hF
  rintro fr st' ⟨acc, hF, hacc, rfl⟩
  simp only [Fs] at hF
  refine Ks_ (Ka_ (gs := [none, none]) fun K1 gK => ?_)
  simp (disch := omega) [hF]
  refine gK _ _ (Kq_ (gr _ _ ?_))
  simp [Jx, Tryz.f29, hF]
  refine hR _ _ ?_
  exact ⟨⟨_, rfl, hacc⟩, rfl⟩
set_option maxRecDepth 100000 in
theorem Jlp (gl : Gl) (st : St) (s : S) (hs : s.n ≤ 100000) :
  Says Tryz.prog gl 51 [.str s] st (fun v st' => (∃ t : S, v = .str t ∧ t.toList = JaT (esc s.toList)) ∧ Sm st st') := by
 refine Qa (NY.no _ rfl rfl rfl _ _) Tryz.func51 rfl (by kernel_rfl) fun R hR K gr gn => ?_
 generalize hfr : Jy gl [.str s] = fr
 have hF : Fs gl [(0, .str s)] fr := by subst hfr; simp [Fs]
 simp only [Fs] at hF
 clear hfr
 obtain ⟨v, s1, hc, ⟨u, rfl, hu⟩, hs1⟩ := Says.use (JgL gl st s hs)
 rw [show s1 = st from hs1] at hc
 clear hs1
 have hun : u.n ≤ 200000 := by
  have h1 := congrArg List.length hu
  have h2 := QK s.toList
  rw [S.len] at h1
  rw [S.len] at h2
  omega
 rw [← hu] at hR
 have ls := QT Tryz.underlying9 (s := u)
 refine Ks_ (Ka_ (gs := [none]) fun K1 gK => ?_)
 simp (disch := omega) []
 refine gK _ _ (Ks_ (Ka_ (gs := [none]) fun K1 gK => ?_))
 simp (disch := omega) []
 refine gK _ _ (Ks_ (Ka_ (gs := [none, none, none]) fun K1 gK => ?_))
 simp (disch := omega) [hF, hc]
 refine gK _ _ (Ks_ (Ks_ (Ka_ (gs := [none]) fun K1 gK => ?_)))
 simp (disch := omega) []
 refine gK _ _ ?_
 refine Kl_ (u.n) (fun i fr st' => ∃ (acc : S), Fs gl [(0, .str u), (3, .str acc), (4, .int .i64 (i : Int))] fr ∧ i ≤ u.n ∧ acc.toList = JaT (u.toList.take i) ∧ st = st') (0) (fun fr st' => ∃ (acc : S), Fs gl [(3, .str acc)] fr ∧ acc.toList = JaT u.toList ∧ st = st') ?_ ?_ ?_ ?_
 ·exact ⟨⟨0, 0⟩, by simp [Fs, hF, S.ofList, enc],  Nat.zero_le _, rfl, rfl⟩
 ·rintro i fr st' ⟨acc, _, hi, hacc, rfl⟩
  omega
 ·as_aux_lemma =>
  clear hF
  rintro i fr st' ⟨acc, hF, hi, hacc, rfl⟩ K5 gk5 gx5 go5
  simp only [Fs] at hF
  refine Ks_ (Ks_ (Ka_ (gs := [none, none, none, none]) fun K1 gK => ?_))
  simp (disch := omega) [hF, ls]
  refine gK _ _ ?_
  by_cases hlt : i < u.n
  ·
   refine Kt_ (by simp (disch := omega) [hlt]) ?_
   have hix := Q8 (P := Tryz.prog) (k := .i64) Tryz.underlying9 hlt
   have han : acc.n ≤ 2 * i := by
    have h1 := congrArg List.length hacc
    have h2 := JgK (u.toList.take i)
    rw [S.len] at h1
    rw [List.length_take, S.len] at h2
    omega
   have ad1 : ∀ kk, Jd Tryz.prog kk .add 9 (.str acc) (.str (S.ofList [92])) = some (.str (acc.app (S.ofList [92]))) := fun kk => JA (by rw [Jf]; simp; omega)
   have ad2 : ∀ kk, Jd Tryz.prog kk .add 9 (.str acc) (.str (u.cut i (i + 1))) = some (.str (acc.app (u.cut i (i + 1)))) := fun kk => JA (by rw [Jhr]; omega)
   have ad3 : ∀ kk, Jd Tryz.prog kk .add 9 (.str (acc.app (S.ofList [92]))) (.str (u.cut i (i + 1))) = some (.str ((acc.app (S.ofList [92])).app (u.cut i (i + 1)))) := fun kk => JA (by rw [Jhr, QZ, Jf]; simp; omega)
   have hsl : Jac Tryz.prog 9 (.str u) (some (.int .i64 (i : Int))) (some (.int .i64 ((i : Int) + 1))) = some (.str (u.cut i (i + 1))) := Jcg (hi := i + 1) Tryz.underlying9 (by omega) (by omega)
   have hcl := S.at_lt u i
   have hone : JaT [UInt8.ofNat (u.at i)] = if u.at i = 58 then [92, 58] else [UInt8.ofNat (u.at i)] := by
    by_cases h : u.at i = 58
    ·rw [if_pos h, h]; rfl
    ·rw [if_neg h]
     have : ¬ UInt8.ofNat (u.at i) = 58 := fun e => h ((JdL hcl (by decide : 58 < 256)).1 e)
     show (if UInt8.ofNat (u.at i) = 58 then [92, 58] else [UInt8.ofNat (u.at i)]) ++ [] = _
     rw [if_neg this]; rfl
   refine Kk_ (Ks_ ?_)
   refine Kb_ fun K6 gn6 gx6 go6 => ?_
   refine Ks_ (Ks_ (Ka_ (gs := [none, none, none, none]) fun K1 gK => ?_))
   simp (disch := omega) [hF, hlt, hix]
   refine gK _ _ ?_
   by_cases h58 : u.at i = 58
   ·
    refine Kt_ (by simp (disch := omega) [h58]) (Ka_ (gs := [none, none, none]) fun K1 gK => ?_)
    simp (disch := omega) [hF, ad1, h58]
    refine gK _ _ (Ka_ (gs := [none, none, none, none, none, none, none, none]) fun K1 gK => ?_)
    simp (disch := omega) [hF, ad3, hsl]
    refine gK _ _ (gn6 _ _ (Ka_ (gs := [none, none, none]) fun K1 gK => ?_))
    simp (disch := omega) [hF]
    refine gK _ _ ?_
    refine gk5 (i + 1) _ _ (by omega) ⟨(acc.app (S.ofList [92])).app (u.cut i (i + 1)), by simp [Fs, hF], by omega, by rw [S.toList_app, S.toList_app, hacc, Jcv u hlt, JdC, hone, if_pos h58, S.toList_ofList, Jil hlt, h58]; simp, rfl⟩
   ·
    refine Kf_ (by simp (disch := omega) [h58]) (Kk_ (Ka_ (gs := [none, none, none, none, none, none, none, none]) fun K1 gK => ?_))
    simp (disch := omega) [hF, ad2, hsl, h58]
    refine gK _ _ (gn6 _ _ (Ka_ (gs := [none, none, none]) fun K1 gK => ?_))
    simp (disch := omega) [hF]
    refine gK _ _ ?_
    refine gk5 (i + 1) _ _ (by omega) ⟨acc.app (u.cut i (i + 1)), by simp [Fs, hF], by omega, by rw [S.toList_app, hacc, Jcv u hlt, JdC, hone, if_neg h58, Jil hlt], rfl⟩
  ·
   refine Kf_ (by simp (disch := omega) [hlt]) ?_
   exact Kx_ (gx5 _ _ ⟨acc, by simp [Fs, hF, hlt], by rw [hacc, List.take_of_length_le (by rw [S.len]; omega)], rfl⟩)
 ·as_aux_lemma =>
  clear hF
  rintro fr st' ⟨acc, hF, hacc, rfl⟩
  simp only [Fs] at hF
  refine Ks_ (Ka_ (gs := [none, none]) fun K1 gK => ?_)
  simp (disch := omega) [hF]
  refine gK _ _ (Kq_ (gr _ _ ?_))
  simp [Jx, Tryz.f51, hF]
  refine hR _ _ ?_
  exact ⟨⟨_, rfl, hacc⟩, rfl⟩
variable [NZ] [NO]
set_option maxRecDepth 100000 in
omit [NZ] in
theorem JgM (gl : Gl) (st : St) (s : S) (hs : s.n ≤ 100000) :
  Says Tryz.prog gl 23 [.str s] st (fun v st' => (∃ t : S, v = .str t ∧ t.toList = esc s.toList) ∧ Keep st st') := by
 refine Qa (NY.no _ rfl rfl rfl _ _) Tryz.func23 rfl (by kernel_rfl) fun R hR K gr gn => ?_
 generalize hfr : Jy gl [.str s] = fr
 have hF : Fs gl [(0, .str s)] fr := by subst hfr; simp [Fs]
 simp only [Fs] at hF
 clear hfr
 obtain ⟨sA, hsA⟩ : ∃ q, q = st.new (.cells oldsV 9 true (some 0)) := ⟨_, rfl⟩
 have kA : Keep st sA := by rw [hsA]; exact (Keep.refl st).new' _
 have cA : sA.ctr = st.ctr + 1 := by rw [hsA]; rfl
 have bA : sA.box.get st.ctr = some (.cells oldsV 9 true (some 0)) := by rw [hsA, Js, if_pos rfl]
 have hfA : ({ ctr := st.ctr + 1, box := st.box.put st.ctr (.cells oldsV 9 true (some 0)) } : St) = sA := by rw [hsA]; rfl
 clear hsA
 obtain ⟨v, s2, hcn, rfl, hraw, hk2⟩ := Says.use (JhL gl sA st.ctr (by omega) bA)
 obtain ⟨v, s3, hcr, ⟨t, rfl, ht⟩, ri', hri, hids, hct, hbx⟩ := Says.use (JgE gl s2 (sA.ctr + 1) (.raw sA.ctr) s hs hraw)
 have hc2 := hk2.ctr
 have k3 : Keep st s3 := ⟨by omega, fun i hi => by rw [hbx i (by omega) (by omega)]; exact (kA.trans hk2).box i hi⟩
 have hoo : oldsV.all JN = true := rfl
 refine Ks_ (Ka_ (gs := [none]) fun K1 gK => ?_)
 simp (disch := omega) []
 refine gK _ _ (Ks_ (Ka_ (gs := [none, none, none, none, none]) fun K1 gK => ?_))
 simp (disch := omega) [hF, Jdy, hfA, hcn, hcr, hoo, Jt]
 refine gK _ _ (Kq_ (gr _ _ ?_))
 simp [Jx, Tryz.f23, hF]
 refine hR _ _ ?_
 exact ⟨⟨t, rfl, ht⟩, k3⟩
end Go.Vm
namespace Go.Vm
open Go Go.Proofs Go.Pa
attribute [local simp] OkS QL OkG Qu QB OkD Qd Qn JS Jh Jn vop Ju JG ev evs toV Jm Fr.dsTo Fr.glTo Fr.toNone Jj Jk Jl Qj QN Jc JL Jv V.undef J5 JV Qo Qg Qh Qk Qp Qq JU J8 Qr Ql JX Qs JC JF JE Jz JM Jo JW J2 JK Qb
theorem Jb8 : Q4 Tryz.prog 64 = some (.agg [.nilp, .nils]) := by kernel_rfl
theorem Jnh {s : S} : (S.ofList [58]).same s = true ↔ s.toList = [58] := by rw [S.same_eq, S.toList_ofList, beq_iff_eq]; exact ⟨Eq.symm, Eq.symm⟩
variable [Memo] [NY]
set_option maxHeartbeats 1000000 in
set_option maxRecDepth 100000 in
theorem Jqy (gl : Gl) (st : St) (s : S) :
  Says Tryz.prog gl 123 [.str s, .str (S.ofList [58])] st (fun v st' => v = .int .i64 (Lib.indexByte s.toList 58) ∧ Sm st st') := by
 refine Qa (NY.no _ rfl rfl rfl _ _) Tryz.func123 rfl (by kernel_rfl) fun R hR K gr gn => ?_
 generalize hfr : Jy gl [.str s, .str (S.ofList [58])] = fr
 have hF : Fs gl [(0, .str s), (1, .str (S.ofList [58]))] fr := by subst hfr; simp [Fs]
 simp only [Fs] at hF
 clear hfr
 have hc := Jg (P := Tryz.prog) (ih := ihCall (W Tryz.prog)) (gl := gl) (args := [.str s, .int .u8 ((58 : Nat) : Int)]) (st := st) (show JR Tryz.prog 112 = true by kernel_rfl)
 rw [JZ (Jgc gl st s 58)] at hc
 have hc : JaC Tryz.prog (ihCall (W Tryz.prog)) gl 112 [.str s, .int .u8 58] st = .val (.int .i64 (Lib.indexByte s.toList 58)) st := hc
 have hix : Jcd Tryz.prog 9 (.str (S.ofList [58])) (.int .i64 0) = some (.int .u8 58) := by kernel_rfl
 have e0 : ∀ kk, Jd Tryz.prog kk .eql 3 (.int .i64 1) (.int .i64 0) = some (.bool false) := fun kk => Qc
 have e1 : ∀ kk, Jd Tryz.prog kk .eql 3 (.int .i64 1) (.int .i64 1) = some (.bool true) := fun kk => Qc
 obtain ⟨B, hB⟩ : ∃ b, (S.ofList [58]).same s = b := ⟨_, rfl⟩
 refine Ks_ (Ka_ (gs := [none]) fun K1 gK => ?_)
 simp (disch := omega) []
 refine gK _ _ (Ks_ (Ka_ (gs := [none, none, none]) fun K1 gK => ?_))
 simp (disch := omega) [hF, QD]
 refine gK _ _ (Ks_ ?_)
 refine Kb_ fun K1 gn1 gx1 go1 => ?_
 have gr1 := fun fr st h => go1 AE.ret fr st trivial (gr fr st h)
 refine Ks_ (Ka_ (gs := [none, none, none, some (some 19, false), some (some 19, false), some (some 19, false), none, none]) fun K1 gK => ?_)
 simp (disch := omega) [hF, e0, hB]
 refine gK _ _ ?_
 cases B with
 | true =>
  refine Kt_ (by simp (disch := omega) []) ?_
  have hl := Jnh.1 hB
  have hz : Lib.indexByte s.toList 58 = 0 := by rw [hl]; rfl
  refine Ks_ (Ka_ (gs := [none]) fun K1 gK => ?_)
  simp (disch := omega) []
  refine gK _ _ (Kq_ (gr1 _ _ ?_))
  simp [Jx, Tryz.f123, hF]
  refine hR _ _ ?_
  exact ⟨by rw [hz], rfl⟩
 | false =>
  refine Kf_ (by simp (disch := omega) []) (Ks_ (Ka_ (gs := [none, none, none]) fun K1 gK => ?_))
  simp (disch := omega) [e1]
  refine gK _ _ (Kt_ (by simp (disch := omega) []) (Ks_ (Ka_ (gs := [none, none, none, none, none]) fun K1 gK => ?_)))
  simp (disch := omega) [hF, hc, hix]
  refine gK _ _ (Kq_ (gr1 _ _ ?_))
  simp [Jx, Tryz.f123, hF]
  refine hR _ _ ?_
  exact ⟨rfl, rfl⟩
set_option maxRecDepth 100000 in
theorem Jni (gl : Gl) (st : St) (s : S) :
  Says Tryz.prog gl 109 [.str s, .str (S.ofList [58])] st (fun v st' => v = .int .i64 (Lib.indexByte s.toList 58) ∧ Sm st st') := by
 refine Qa (NY.no _ rfl rfl rfl _ _) Tryz.func109 rfl (by kernel_rfl) fun R hR K gr gn => ?_
 generalize hfr : Jy gl [.str s, .str (S.ofList [58])] = fr
 have hF : Fs gl [(0, .str s), (1, .str (S.ofList [58]))] fr := by subst hfr; simp [Fs]
 simp only [Fs] at hF
 clear hfr
 obtain ⟨v, s1, hc, rfl, hs1⟩ := Says.use (Jqy gl st s)
 rw [show s1 = st from hs1] at hc
 refine Ks_ (Ka_ (gs := [none]) fun K1 gK => ?_)
 simp (disch := omega) []
 refine gK _ _ (Ks_ (Ka_ (gs := [none, none, none, none]) fun K1 gK => ?_))
 simp (disch := omega) [hF, hc]
 refine gK _ _ (Kq_ (gr _ _ ?_))
 simp [Jx, Tryz.f109, hF]
 refine hR _ _ ?_
 exact ⟨rfl, rfl⟩
variable [NZ] [NO]
set_option maxHeartbeats 4000000 in
set_option maxRecDepth 100000 in
omit [NZ] [NO] in
theorem Joy (gl : Gl) (st : St) (s : S) (hs : s.n ≤ 300000) :
  Says Tryz.prog gl 90 [.str s, .str (S.ofList [58]), .str (S.ofList [92, 58]), .int .i64 (-1)] st (fun v st' => (∃ t : S, v = .str t ∧ t.toList = JaT s.toList) ∧ Keep st st') := by
 refine Qa (NY.no _ rfl rfl rfl _ _) Tryz.func90 rfl (by kernel_rfl) fun R hR K gr gn => ?_
 generalize hfr : Jy gl [.str s, .str (S.ofList [58]), .str (S.ofList [92, 58]), .int .i64 (-1)] = fr
 have hF : Fs gl [(0, .str s), (1, .str (S.ofList [58])), (2, .str (S.ofList [92, 58])), (3, .int .i64 (-1))] fr := by subst hfr; simp [Fs]
 simp only [Fs] at hF
 clear hfr
 have ls := QT Tryz.underlying9 (s := s)
 obtain ⟨v, s1, hc, rfl, hs1⟩ := Says.use (JgC gl st s (S.ofList [58]) rfl)
 rw [show s1 = st from hs1] at hc
 clear hs1
 have hat : UInt8.ofNat ((S.ofList [58]).at 0) = 58 := rfl
 rw [hat] at hc
 have e0 : ∀ kk, Jd Tryz.prog kk .eql 9 (.str (S.ofList [58])) (.str (S.ofList [92, 58])) = some (.bool false) := fun kk => by cases kk <;> kernel_rfl
 have e1 : ∀ kk, Jd Tryz.prog kk .eql 3 (.int .i64 (-1)) (.int .i64 0) = some (.bool false) := fun kk => Qc
 have e2 : ∀ kk, Jd Tryz.prog kk .lss 3 (.int .i64 (-1)) (.int .i64 0) = some (.bool true) := fun kk => J1
 have hcl : s.toList.count 58 ≤ s.n := by rw [← S.len]; exact List.count_le_length
 obtain ⟨m, hm⟩ : ∃ m, s.toList.count 58 = m := ⟨_, rfl⟩
 rw [hm] at hc hcl
 have hsm : (S.ofList [58]).same (S.ofList [92, 58]) = false := by kernel_rfl
 refine Ks_ (Ka_ (gs := [none]) fun K1 gK => ?_)
 simp (disch := omega) []
 refine gK _ _ (Ks_ (Ks_ (Ka_ (gs := [none, none, none, none, some (some 19, false), some (some 19, false), none]) fun K1 gK => ?_)))
 simp (disch := omega) [hF, e0, e1]
 refine gK _ _ (Kf_ (by simp (disch := omega) []) (Kk_ (Ks_ (Ks_ (Ka_ (gs := [none, none, none, none]) fun K1 gK => ?_)))))
 simp (disch := omega) [hF, hc]
 refine gK _ _ (Ks_ (Ka_ (gs := [none, none]) fun K1 gK => ?_))
 simp (disch := omega) []
 refine gK _ _ ?_
 by_cases h0 : m = 0
 ·
  refine Kt_ (by simp (disch := omega) [h0]) (Ks_ (Ka_ (gs := [none, none]) fun K1 gK => ?_))
  simp (disch := omega) [hF, h0]
  refine gK _ _ (Kq_ (gr _ _ ?_))
  simp [Jx, Tryz.f90, hF]
  refine hR _ _ ?_
  exact ⟨⟨s, rfl, by rw [Jf1 (List.count_eq_zero.1 (by omega))]⟩, .refl _⟩
 ·
  refine Kf_ (by simp (disch := omega) [h0]) ?_
  obtain ⟨q, hq⟩ : ∃ q, q = st.new (.cells [.nilp, .nils] 64 true (some 0)) := ⟨_, rfl⟩
  have kq : Keep st q := by rw [hq]; exact (Keep.refl st).new' _
  have cq : q.ctr = st.ctr + 1 := by rw [hq]; rfl
  have bq : q.box.get st.ctr = some (.cells [.nilp, .nils] 64 true (some 0)) := by rw [hq, Js, if_pos rfl]
  have hfq : ({ ctr := st.ctr + 1, box := st.box.put st.ctr (.cells [.nilp, .nils] 64 true (some 0)) } : St) = q := by rw [hq]; rfl
  clear hq
  obtain ⟨v, q1, hg, hbl, hct, hbx⟩ := Says.use (Jjf gl q st.ctr (s.n + m) (by omega) (by omega) (by omega) bq)
  have hlo : Low st.ctr q q1 := ⟨hct, fun i hi => hbx i (by omega) (by omega)⟩
  have kq1 : Keep st q1 := hlo.keep kq (Nat.le_refl _)
  have hN : (((s.n + m : Nat)) : Int) = (s.n : Int) + (m : Int) * 1 := by omega
  rw [hN] at hg
  have hmul : ∀ kk, Jd Tryz.prog kk .mul 3 (.int .i64 (m : Int)) (.int .i64 (2 - 1)) = some (.int .i64 ((m : Int) * 1)) := fun kk => by rw [Qt, Jo (by omega) (by omega)]; rfl
  have hmul' : ∀ kk, Jd Tryz.prog kk .mul 3 (.int .i64 (m : Int)) (.int .i64 1) = some (.int .i64 ((m : Int) * 1)) := fun kk => by rw [Qt, Jo (by omega) (by omega)]
  have e3 : ∀ kk, Jd Tryz.prog kk .gtr 3 (.int .i64 1) (.int .i64 0) = some (.bool true) := fun kk => JcV
  simp only [Int.mul_one] at hg hmul hmul'
  refine Ks_ (Ka_ (gs := [none, none, none, some (some 32, false), some (some 32, false), some (some 32, false), none]) fun K1 gK => ?_)
  simp (disch := omega) [hF, e2, h0]
  refine gK _ _ (Kt_ (by simp (disch := omega) []) (Ka_ (gs := [none, none]) fun K1 gK => ?_))
  simp (disch := omega) []
  refine gK _ _ (Ks_ (Ka_ (gs := [none]) fun K1 gK => ?_))
  simp (disch := omega) [Jb8, hfq, Jp, JN]
  refine gK _ _ (Ks_ (Ka_ (gs := [none, none, none, none, none, none, none, none, none, none, none]) fun K1 gK => ?_))
  simp (disch := omega) [hF, ls, QD, Q3, hg, hmul']
  refine gK _ _ (Ks_ (Ka_ (gs := [none]) fun K1 gK => ?_))
  simp (disch := omega) []
  refine gK _ _ (Ks_ (Ks_ (Ka_ (gs := [none, none, none]) fun K1 gK => ?_)))
  simp (disch := omega) [hF, QD, e3]
  refine gK _ _ (Kt_ (by simp (disch := omega) []) (Ks_ (Ka_ (gs := [none, none]) fun K1 gK => ?_)))
  simp (disch := omega) []
  refine gK _ _ ?_
  refine Kl_ (m) (fun i fr st' => ∃ (dn rs : List UInt8), Fs gl [(0, .str s), (1, .str (S.ofList [58])), (2, .str (S.ofList [92, 58])), (10, .ptr st.ctr 0), (11, .int .i64 (dn.length : Int)), (52, .int .i64 (m : Int)), (53, .int .i64 (i : Int))] fr ∧ i ≤ m ∧ s.toList = dn ++ rs ∧ rs.count 58 + i = m ∧ Bld st.ctr st.ctr st' (JaT dn) ∧ Keep st st') (0) (fun fr st' => ∃ (dn rs : List UInt8), Fs gl [(0, .str s), (10, .ptr st.ctr 0), (11, .int .i64 (dn.length : Int))] fr ∧ s.toList = dn ++ rs ∧ rs.count 58 = 0 ∧ Bld st.ctr st.ctr st' (JaT dn) ∧ Keep st st') ?_ ?_ ?_ ?_
  ·exact ⟨[], s.toList, by simp [Fs, hF], Nat.zero_le _, rfl, by omega, hbl, kq1⟩
  ·rintro i fr st' ⟨dn, rs, _, hi, hdr, hcn, hbw, hk⟩
   omega
  ·as_aux_lemma =>
   clear hF
   rintro i fr st' ⟨dn, rs, hF, hi, hdr, hcn, hbw, hk⟩ K2 gk2 gx2 go2
   simp only [Fs] at hF
   have hlen : dn.length + rs.length = s.n := by rw [← S.len, hdr, List.length_append]
   have hdc := Jb7 dn
   have hdm : dn.count 58 + rs.count 58 = m := by rw [← List.count_append, ← hdr, hm]
   refine Ks_ (Ka_ (gs := [none]) fun K1 gK => ?_)
   simp (disch := omega) [hF]
   refine gK _ _ (Ks_ ?_)
   by_cases hlt : i < m
   ·
    refine Kt_ (by simp (disch := omega) [hlt]) ?_
    obtain ⟨pre, rest, hpr, hnp, hix, hrc⟩ := Jng (l := rs) (by omega)
    have hsl1 := Je5 (P := Tryz.prog) (k := .i64) Tryz.underlying9 (s := s) (lo := dn.length) (by omega)
    have htl1 : (s.cut dn.length s.n).toList = rs := by
     rw [S.toList_cut s (by omega) (Nat.le_refl _), hdr, List.drop_left, List.take_of_length_le (by omega)]
    obtain ⟨v, s2, hci, rfl, hs2⟩ := Says.use (Jni gl st' (s.cut dn.length s.n))
    rw [show s2 = st' from hs2, htl1, hix] at hci
    clear hs2
    have hpl : dn.length + pre.length + 1 + rest.length = s.n := by rw [← hlen, hpr]; simp; omega
    have hsl2 : Jac Tryz.prog 9 (.str s) (some (.int .i64 (dn.length : Int))) (some (.int .i64 ((dn.length : Int) + (pre.length : Int)))) = some (.str (s.cut dn.length (dn.length + pre.length))) := Jcg (hi := dn.length + pre.length) Tryz.underlying9 (by omega) (by omega)
    have htl2 : (s.cut dn.length (dn.length + pre.length)).toList = pre := by
     rw [S.toList_cut s (by omega) (by omega), hdr, List.drop_left, show dn.length + pre.length - dn.length = pre.length by omega, hpr, List.take_left]
    have hpc : pre.count 58 = 0 := List.count_eq_zero.2 hnp
    obtain ⟨v, s3, hw1, hb3, hl3⟩ := Says.use (Jb6 gl st' st.ctr st.ctr (JaT dn) (s.cut dn.length (dn.length + pre.length)) hbw (by rw [Jhr]; omega))
    rw [htl2] at hb3
    obtain ⟨v', s4, hw2, hb4, hl4⟩ := Says.use (Jb6 gl s3 st.ctr st.ctr (JaT dn ++ pre) (S.ofList [92, 58]) hb3 (by rw [List.length_append, Jf]; simp; omega))
    have hadd : (dn.length : Int) + (pre.length : Int) + 1 = (dn.length : Int) + ((pre.length : Int) + 1) := by omega
    refine Kk_ (Ks_ ?_)
    refine Kb_ fun K3 gn3 gx3 go3 => ?_
    refine Ks_ (Ka_ (gs := [none, none, none, none, none, none, none, none]) fun K1 gK => ?_)
    simp (disch := omega) [hF, hlt, hsl1, hci]
    refine gK _ _ (Ks_ (Ka_ (gs := [none, none, none, none, none]) fun K1 gK => ?_))
    simp (disch := omega) [hF, hsl2, hw1]
    refine gK _ _ (Ks_ (Ka_ (gs := [none, none]) fun K1 gK => ?_))
    simp (disch := omega) [hF, hw2]
    refine gK _ _ (Ka_ (gs := [none, none, none, none, none]) fun K1 gK => ?_)
    simp (disch := omega) [hF, QD]
    refine gK _ _ (gn3 _ _ (Ka_ (gs := [none, none]) fun K1 gK => ?_))
    simp (disch := omega) [hF]
    refine gK _ _ ?_
    refine gk2 (i + 1) _ _ (by omega) ⟨dn ++ (pre ++ [58]), rest, by simp [Fs, hF, hadd], by omega, by rw [hdr, hpr]; simp, by omega, by have e : JaT (dn ++ (pre ++ [58])) = JaT dn ++ pre ++ [92, 58] := by { rw [JdC, JdC, Jf1 hnp, List.append_assoc]; rfl }; rw [e]; rw [S.toList_ofList] at hb4; exact hb4, (hl3.trans hl4).keep hk (Nat.le_refl _)⟩
   ·
    refine Kf_ (by simp (disch := omega) [hlt]) ?_
    exact Kx_ (gx2 _ _ ⟨dn, rs, by simp [Fs, hF, hlt], hdr, by omega, hbw, hk⟩)
  ·as_aux_lemma =>
   clear hF
   rintro fr st' ⟨dn, rs, hF, hdr, hcn, hbw, hk⟩
   simp only [Fs] at hF
   have hlen : dn.length + rs.length = s.n := by rw [← S.len, hdr, List.length_append]
   have hdc := Jb7 dn
   have hdm : dn.count 58 + rs.count 58 = m := by rw [← List.count_append, ← hdr, hm]
   have hsl1 := Je5 (P := Tryz.prog) (k := .i64) Tryz.underlying9 (s := s) (lo := dn.length) (by omega)
   have htl1 : (s.cut dn.length s.n).toList = rs := by
    rw [S.toList_cut s (by omega) (Nat.le_refl _), hdr, List.drop_left, List.take_of_length_le (by omega)]
   obtain ⟨v, s3, hw1, hb3, hl3⟩ := Says.use (Jb6 gl st' st.ctr st.ctr (JaT dn) (s.cut dn.length s.n) hbw (by rw [Jhr]; omega))
   rw [htl1] at hb3
   have hfin : JaT dn ++ rs = JaT s.toList := by rw [hdr, JdC, Jf1 (List.count_eq_zero.1 hcn)]
   rw [hfin] at hb3
   obtain ⟨v, s4, hw2, ⟨t, rfl, ht⟩, hl4⟩ := Says.use (Jff gl s3 st.ctr st.ctr (JaT s.toList) hb3 (by have := Jb7 s.toList; rw [S.len] at this; omega) (by intro e; have := Jb7 s.toList; rw [e, S.len] at this; simp at this; omega))
   refine Ks_ (Ka_ (gs := [none, none, none, none]) fun K1 gK => ?_)
   simp (disch := omega) [hF, hsl1, hw1]
   refine gK _ _ (Ks_ (Ka_ (gs := [none, none]) fun K1 gK => ?_))
   simp (disch := omega) [hF, hw2]
   refine gK _ _ (Kq_ (gr _ _ ?_))
   simp [Jx, Tryz.f90, hF]
   refine hR _ _ ?_
   exact ⟨⟨t, rfl, ht⟩, (hl3.trans hl4).keep hk (Nat.le_refl _)⟩
set_option maxRecDepth 100000 in
omit [NZ] [NO] in
theorem Jkm (gl : Gl) (st : St) (s : S) (hs : s.n ≤ 300000) :
  Says Tryz.prog gl 70 [.str s, .str (S.ofList [58]), .str (S.ofList [92, 58])] st (fun v st' => (∃ t : S, v = .str t ∧ t.toList = JaT s.toList) ∧ Keep st st') := by
 refine Qa (NY.no _ rfl rfl rfl _ _) Tryz.func70 rfl (by kernel_rfl) fun R hR K gr gn => ?_
 generalize hfr : Jy gl [.str s, .str (S.ofList [58]), .str (S.ofList [92, 58])] = fr
 have hF : Fs gl [(0, .str s), (1, .str (S.ofList [58])), (2, .str (S.ofList [92, 58]))] fr := by subst hfr; simp [Fs]
 simp only [Fs] at hF
 clear hfr
 obtain ⟨v, s1, hc, ⟨t, rfl, ht⟩, hk⟩ := Says.use (Joy gl st s hs)
 refine Ks_ (Ka_ (gs := [none]) fun K1 gK => ?_)
 simp (disch := omega) []
 refine gK _ _ (Ks_ (Ka_ (gs := [none, none, none, none, none]) fun K1 gK => ?_))
 simp (disch := omega) [hF, hc]
 refine gK _ _ (Kq_ (gr _ _ ?_))
 simp [Jx, Tryz.f70, hF]
 refine hR _ _ ?_
 exact ⟨⟨t, rfl, ht⟩, hk⟩
set_option maxRecDepth 100000 in
omit [NZ] in
theorem Jlq (gl : Gl) (st : St) (s : S) (hs : s.n ≤ 100000) :
  Says Tryz.prog gl 48 [.str s] st (fun v st' => (∃ t : S, v = .str t ∧ t.toList = JaT (esc s.toList)) ∧ Keep st st') := by
 refine Qa (NY.no _ rfl rfl rfl _ _) Tryz.func48 rfl (by kernel_rfl) fun R hR K gr gn => ?_
 generalize hfr : Jy gl [.str s] = fr
 have hF : Fs gl [(0, .str s)] fr := by subst hfr; simp [Fs]
 simp only [Fs] at hF
 clear hfr
 obtain ⟨v, s1, hc, ⟨t, rfl, ht⟩, hk⟩ := Says.use (JgM gl st s hs)
 have htn : t.n ≤ 300000 := by
  have h1 := congrArg List.length ht
  have h2 := QK s.toList
  rw [S.len] at h1
  rw [S.len] at h2
  omega
 obtain ⟨v, s2, hc2, ⟨u, rfl, hu⟩, hk2⟩ := Says.use (Jkm gl s1 t htn)
 rw [ht] at hu
 refine Ks_ (Ka_ (gs := [none]) fun K1 gK => ?_)
 simp (disch := omega) []
 refine gK _ _ (Ks_ (Ka_ (gs := [none, none, none, none]) fun K1 gK => ?_))
 simp (disch := omega) [hF, hc, hc2]
 refine gK _ _ (Kq_ (gr _ _ ?_))
 simp [Jx, Tryz.f48, hF]
 refine hR _ _ ?_
 exact ⟨⟨u, rfl, hu⟩, hk.trans hk2⟩
end Go.Vm
namespace Go.Vm
open Go Go.Proofs Go.Pa
attribute [local simp] OkS QL OkG Qu QB OkD Qd Qn JS Jh Jn vop Ju JG ev evs toV Jm Fr.dsTo Fr.glTo Fr.toNone Jj Jk Jl Qj QN Jc JL Jv V.undef J5 JV Qo Qg Qh Qk Qp Qq JU J8 Qr Ql JX Qs JC JF JE Jz JM Jo JW J2 JK Qb
def JfQ (p : List S) : List UInt8 := JaT (esc (Jck p))
def Jjt (l : List Fw) (n : Int) : List UInt8 := JfQ (QV l n.toNat)
theorem JdU : ∀ {p : List S}, p.length ≤ 250 → (∀ s ∈ p, s.n ≤ 300) → (Jck p).length ≤ 75251
 | [], _, _ => by simp [Jck]
 | a :: r, hp, hs => by
  have h1 := Jdx (a :: r) hs
  show ((a :: r).flatMap fun s => 47 :: s.toList).length ≤ _
  simp only [List.length_cons] at hp h1
  omega
theorem Jfj {p : List S} (hp : p.length ≤ 250) (hs : ∀ s ∈ p, s.n ≤ 300) : (JfQ p).length ≤ 302000 := by
 have h1 := JdU hp hs
 have h2 := QK (Jck p)
 have h3 := JgK (esc (Jck p))
 unfold JfQ; omega
variable [Memo] [NY] [NZ] [NO]
set_option maxRecDepth 100000 in
omit [NZ] in
theorem Jo0 (gl : Gl) {aL : List V} (hh : Hits gl aL) (st : St) (x : V) (l : List Fw) (hx : Row Fw.cells x l) (hok : ∀ f ∈ l, f.ok) (hs : ∀ f ∈ l, f.small) (hl : l.length ≤ 60) (hm : MayF l) (n : Int) (h0 : 0 ≤ n) (h1 : n < (l.length : Int)) :
  Says Tryz.prog gl 49 [x, .int .i64 n] st (fun v st' => (∃ t : S, v = .str t ∧ t.toList = Jjt l n ∧ t.n ≤ 302000) ∧ Keep st st') := by
 refine Qa (NY.no _ rfl rfl rfl _ _) Tryz.func49 rfl (by kernel_rfl) fun R hR K gr gn => ?_
 generalize hfr : Jy gl [x, .int .i64 n] = fr
 have hF : Fs gl [(0, x), (1, .int .i64 n)] fr := by subst hfr; simp [Fs]
 simp only [Fs] at hF
 clear hfr
 have hn : ((n.toNat : Nat) : Int) = n := Int.toNat_of_nonneg h0
 have hlt : n.toNat < l.length := by omega
 obtain ⟨v, s1, hc, ⟨y, rfl, hy⟩, hk1⟩ := Says.use (Jol gl hh st x l n.toNat hlt hx hok hs hl (Jbd.2 hm))
 rw [hn] at hc
 have hpl := Jc2 hm n.toNat hlt
 have hps := Jbz hm hs n.toNat hlt
 obtain ⟨v, s2, hc2, ⟨t, rfl, ht⟩, hk2⟩ := Says.use (JgA gl s1 y (QV l n.toNat) hy.vw (by omega) hps)
 have hpn := JdU (p := QV l n.toNat) (by omega) hps
 obtain ⟨v, s3, hc3, ⟨u, rfl, hu⟩, hk3⟩ := Says.use (Jlq gl s2 t (by rw [← S.len, ht]; omega))
 rw [ht] at hu
 refine Ks_ (Ka_ (gs := [none]) fun K1 gK => ?_)
 simp (disch := omega) []
 refine gK _ _ (Ks_ (Ka_ (gs := [none, none, none, none, none, none, none, none]) fun K1 gK => ?_))
 simp (disch := omega) [hF, hc]
 refine gK _ _ (Ks_ (Ka_ (gs := [none, none, none, none]) fun K1 gK => ?_))
 simp (disch := omega) [hF, hc2, hc3]
 refine gK _ _ (Kq_ (gr _ _ ?_))
 simp [Jx, Tryz.f49, hF]
 refine hR _ _ ?_
 exact ⟨⟨u, rfl, hu, by rw [← S.len, hu]; exact Jfj (by omega) hps⟩, hk1.trans (hk2.trans hk3)⟩
set_option maxRecDepth 100000 in
omit [NZ] [NO] in
theorem Jo1 (gl : Gl) (st : St) (x : V) (l : List Fw) (hx : Row Fw.cells x l) (hok : ∀ f ∈ l, f.ok) (hs : ∀ f ∈ l, f.small) (hl : l.length ≤ 60) (hm : MayF l) (n : Int) (h0 : 0 ≤ n) (h1 : n < (l.length : Int)) :
  Says Tryz.prog gl 53 [x, .int .i64 n] st (fun v st' => (∃ t : S, v = .str t ∧ t.toList = Jjt l n ∧ t.n ≤ 302000) ∧ Keep st st') := by
 refine Qa (NY.no _ rfl rfl rfl _ _) Tryz.func53 rfl (by kernel_rfl) fun R hR K gr gn => ?_
 generalize hfr : Jy gl [x, .int .i64 n] = fr
 have hF : Fs gl [(0, x), (1, .int .i64 n)] fr := by subst hfr; simp [Fs]
 simp only [Fs] at hF
 clear hfr
 have hn : ((n.toNat : Nat) : Int) = n := Int.toNat_of_nonneg h0
 have hlt : n.toNat < l.length := by omega
 obtain ⟨v, s1, hc, ⟨y, hv, hy⟩, hk1⟩ := Says.use (Jpa gl st x l n hx hok hs hl)
 rw [Jlo, Jbd.2 hm, ← hn, JhM hlt] at hv
 rw [Jlo, Jbd.2 hm, ← hn, JhN hlt] at hy
 subst hv
 have hpl := Jc2 hm n.toNat hlt
 have hps := Jbz hm hs n.toNat hlt
 obtain ⟨v, s2, hc2, ⟨t, rfl, ht⟩, hs2⟩ := Says.use (Jgu gl s1 y (QV l n.toNat) hy.vw (by omega) hps)
 rw [show s2 = s1 from hs2] at hc2
 have hpn := JdU (p := QV l n.toNat) (by omega) hps
 obtain ⟨v, s3, hc3, ⟨u, rfl, hu⟩, hs3⟩ := Says.use (Jlp gl s1 t (by rw [← S.len, ht]; omega))
 rw [show s3 = s1 from hs3] at hc3
 rw [ht] at hu
 refine Ks_ (Ka_ (gs := [none]) fun K1 gK => ?_)
 simp (disch := omega) []
 refine gK _ _ (Ks_ (Ka_ (gs := [none, none, none, none, none, none, none, none]) fun K1 gK => ?_))
 simp (disch := omega) [hF, hc]
 refine gK _ _ (Ks_ (Ka_ (gs := [none, none, none, none]) fun K1 gK => ?_))
 simp (disch := omega) [hF, hc2, hc3]
 refine gK _ _ (Kq_ (gr _ _ ?_))
 simp [Jx, Tryz.f53, hF]
 refine hR _ _ ?_
 exact ⟨⟨u, rfl, hu, by rw [← S.len, hu]; exact Jfj (by omega) hps⟩, hk1⟩
end Go.Vm
namespace Go.Vm
open Go Go.Proofs Go.Pa
attribute [local simp] OkS QL OkG Qu QB OkD Qd Qn JS Jh Jn vop Ju JG ev evs toV Jm Fr.dsTo Fr.glTo Fr.toNone Jj Jk Jl Qj QN Jc JL Jv V.undef J5 JV Qo Qg Qh Qk Qp Qq JU J8 Qr Ql JX Qs JC JF JE Jz JM Jo JW J2 JK Qb
def JgN (l : List Fw) (base : Int) : List UInt8 := cond (decide (0 ≤ base)) ([32, 111, 118, 101, 114, 32] ++ Jjt l base) []
def JeJ (l : List Fw) (ref : Int) (kind : Nat) (text : S) (base : Int) : List UInt8 :=
 cond (decide (0 ≤ ref)) ([97, 115, 32] ++ Jjt l ref) <| cond (decide (kind = 0)) [97, 98, 115, 101, 110, 116] <| cond (decide (kind = 1)) ([102, 105, 108, 101, 32] ++ esc text.toList) <|
 cond (decide (kind = 3)) ([108, 105, 110, 107, 32] ++ esc text.toList) ([100, 105, 114] ++ JgN l base)
mutual
def J9 (l : List Fw) : Tw → List S → List (List UInt8)
 | .mk ref kind text base _ names _ kids, p => (JfQ p ++ [58, 32] ++ JeJ l ref kind text base) :: cond (decide (0 ≤ ref)) [] (Jaa l kids names p)
def Jaa (l : List Fw) : List Tw → List S → List S → List (List UInt8)
 | t :: ts, n :: ns, p => J9 l t (p ++ [n]) ++ Jaa l ts ns p
 | _, _, _ => []
end
theorem Ja5 (l : List Fw) (ns p : List S) : Jaa l [] ns p = [] := by cases ns <;> rfl
theorem JeK (l : List Fw) : ∀ (ts : List Tw) (ns p : List S) (i : Nat) (h : i < ts.length) (h' : i < ns.length), Jaa l (ts.take (i + 1)) ns p = Jaa l (ts.take i) ns p ++ J9 l ts[i] (p ++ [ns[i]])
 | [], _, _, i, h, _ => by simp at h
 | _ :: _, [], _, i, _, h' => by simp at h'
 | t :: ts, n :: ns, p, 0, _, _ => by simp [Jaa, Ja5]
 | t :: ts, n :: ns, p, i + 1, h, h' => by
  have := JeK l ts ns p i (by simpa using h) (by simpa using h')
  simp only [List.take_succ_cons, Jaa, this, List.getElem_cons_succ, List.append_assoc]
mutual
theorem Jb9 (l : List Fw) : ∀ (t : Tw) (p : List S), (J9 l t p).length ≤ t.nodes
 | .mk ref kind text base nv names kv kids, p => by
  have := JdD l kids names p
  simp only [J9, Tw.nodes, List.length_cons]
  cases decide (0 ≤ ref) <;> simp <;> omega
theorem JdD (l : List Fw) : ∀ (ts : List Tw) (ns p : List S), (Jaa l ts ns p).length ≤ QC ts
 | [], ns, p => by rw [Ja5]; simp
 | t :: ts, [], p => by simp [Jaa]
 | t :: ts, n :: ns, p => by
  have h1 := Jb9 l t (p ++ [n])
  have h2 := JdD l ts ns p
  simp only [Jaa, List.length_append, QC]; omega
end
theorem JcM {l : List Fw} {ref : Int} {kind : Nat} {text : S} {base : Int} {nv kv : V} {names : List S} {kids : List Tw} (h : JaH l (.mk ref kind text base nv names kv kids) = true) :
  (0 ≤ ref ∧ ref < (l.length : Int)) ∨ (ref < 0 ∧ (((kind = 0 ∨ kind = 1 ∨ kind = 3) ∧ kids = [] ∧ names = []) ∨ (kind = 2 ∧ names.length = kids.length ∧ (0 ≤ base → base < (l.length : Int)) ∧ ∀ t ∈ kids, JaH l t = true))) := by
 simp only [JaH] at h
 by_cases hr : ref = -1
 ·right
  refine ⟨by omega, ?_⟩
  simp only [hr, decide_true, cond_true] at h
  by_cases hk : kind = 2
  ·right
   simp only [hk, decide_true, cond_true, Bool.and_eq_true, decide_eq_true_eq, Bool.or_eq_true] at h
   obtain ⟨_, h1, h2, _, h3⟩ := h
   refine ⟨hk, h1, fun hb => ?_, JdT.1 h3⟩
   rcases h2 with h2 | h2
   ·omega
   ·simp only [JeI, Bool.and_eq_true, decide_eq_true_eq] at h2
    exact h2.2.1
  ·left
   simp only [hk, decide_false, cond_false] at h
   by_cases h0 : kind = 0
   ·simp only [h0, decide_true, cond_true, Bool.and_eq_true, decide_eq_true_eq, List.length_eq_zero_iff] at h
    exact ⟨.inl h0, h.2.2.2, h.2.2.1⟩
   ·simp only [h0, decide_false, cond_false, Bool.and_eq_true, decide_eq_true_eq, List.length_eq_zero_iff, JeH, Bool.or_eq_true] at h
    exact ⟨.inr h.2.2.2.1, h.2.2.1, h.2.1⟩
 ·left
  simp only [hr, decide_false, cond_false, Bool.and_eq_true, decide_eq_true_eq] at h
  exact ⟨h.1, h.2.1⟩
theorem Jeg {p : List S} {n : S} (hp : ∀ s ∈ p, s.n ≤ 300) (hn : n.n ≤ 300) : ∀ s ∈ p ++ [n], s.n ≤ 300 := fun s hs => by
 rcases List.mem_append.1 hs with h | h
 ·exact hp s h
 ·rw [List.mem_singleton.1 h]; exact hn
variable [Memo] [NY] [NZ] [NO]
def Jnj [Memo] (gl : Gl) (x : V) (l : List Fw) (t : Tw) : Prop := ∀ (st : St) (y : V) (p : List S), Vw st y p → p.length + t.nodes ≤ 250 → (∀ s ∈ p, s.n ≤ 300) →
 Says Tryz.prog gl 31 [x, .agg t.cells, y] st fun v st' => (∃ ts : List S, ts.map S.toList = J9 l t p ∧ Mine st.ctr 9 st' v (ts.map .str)) ∧ Keep st st'
set_option maxHeartbeats 8000000 in
set_option maxRecDepth 100000 in
omit [NZ] [NO] in
theorem Jju (gl : Gl) (x : V) (l : List Fw) (hx : Row Fw.cells x l) (hok : ∀ f ∈ l, f.ok) (hs : ∀ f ∈ l, f.small) (hl : l.length ≤ 60) (hm : MayF l) (ref : Int) (kind : Nat) (text : S) (base : Int) (nv : V) (names : List S) (kv : V) (kids : List Tw) (hk : kind < 256) (hn : Row sC nv names) (hkv : Row Tw.cells kv kids) (hks : ∀ t ∈ kids, t.ok) (htx : text.n ≤ 5000) (hnl : names.length ≤ 200) (hnt : ∀ s ∈ names, s.n ≤ 300) (_hkl : kids.length ≤ 200) (hvk : veq 1000000000 kv kv = true) (hvt : ∀ t ∈ kids, veq 1000000000 (.agg t.cells) (.agg t.cells) = true) (hmay : JaH l (.mk ref kind text base nv names kv kids) = true) (ih : ∀ t ∈ kids, JaH l t = true → Jnj gl x l t) (st : St) (y : V) (p : List S) (hy : Vw st y p) (hp : p.length + (QC kids + 1) ≤ 250) (hps : ∀ s ∈ p, s.n ≤ 300) :
  Says Tryz.prog gl 31 [x, .agg (Tw.mk ref kind text base nv names kv kids).cells, y] st (fun v st' => (∃ ts : List S, ts.map S.toList = J9 l (.mk ref kind text base nv names kv kids) p ∧ Mine st.ctr 9 st' v (ts.map .str)) ∧ Keep st st') := by
 refine Qa (NY.no _ rfl rfl rfl _ _) Tryz.func31 rfl (by kernel_rfl) fun R hR K gr gn => ?_
 generalize hfr : Jy gl [x, .agg (Tw.mk ref kind text base nv names kv kids).cells, y] = fr
 have hF : Fs gl [(0, x), (1, .agg (Tw.mk ref kind text base nv names kv kids).cells), (2, y)] fr := by subst hfr; simp [Fs]
 simp only [Fs] at hF
 clear hfr
 have ho := Tw.ones (Tw.ok.mk ref kind text base nv names kv kids hk hn hkv hks)
 have kq := Qx st (Tw.mk ref kind text base nv names kv kids).cells 26
 have cq := Jfh st (Tw.mk ref kind text base nv names kv kids).cells 26
 have hb := Q6 st (Tw.mk ref kind text base nv names kv kids).cells 26
 have hT := TwBox.new (st := st) (s := Tw.mk ref kind text base nv names kv kids)
 generalize Jau st (Tw.mk ref kind text base nv names kv kids).cells 26 = q at kq hb hT cq
 obtain ⟨l0, l1, l2, l3, l4, l5, lt⟩ := hT.ld
 have hmf := JcM hmay
 obtain ⟨v, q2, hcs, ⟨pt, rfl, hpt⟩, hq2⟩ := Says.use (Jgu gl q y p (hy.keep kq) (by omega) hps)
 rw [show q2 = q from hq2] at hcs
 clear hq2
 have hpn := JdU (p := p) (by omega) hps
 have hptn : pt.n ≤ 75251 := by rw [← S.len, hpt]; exact hpn
 obtain ⟨v, q3, hcp, ⟨et, rfl, het⟩, hq3⟩ := Says.use (Jlp gl q pt (by omega))
 rw [show q3 = q from hq3] at hcp
 clear hq3
 rw [hpt] at het
 have hetn : et.n ≤ 302000 := by rw [← S.len, het]; exact Jfj (by omega) hps
 have ad0 : ∀ kk, Jd Tryz.prog kk .add 9 (.str et) (.str (S.ofList [58, 32])) = some (.str (et.app (S.ofList [58, 32]))) := fun kk => JA (by rw [Jf]; simp; omega)
 obtain ⟨b, hbb⟩ : ∃ b, et.app (S.ofList [58, 32]) = b := ⟨_, rfl⟩
 have hbl : b.toList = JfQ p ++ [58, 32] := by rw [← hbb, S.toList_app, het, S.toList_ofList]; rfl
 have hbn : b.n ≤ 302002 := by rw [← hbb, QZ, Jf]; simp; omega
 rw [hbb] at ad0
 have ads : ∀ kk (c : S) (r : List UInt8), c.n ≤ 1000000 → r.length ≤ 1000 → Jd Tryz.prog kk .add 9 (.str c) (.str (S.ofList r)) = some (.str (c.app (S.ofList r))) := fun kk c r hc hr => JA (by rw [Jf]; omega)
 have er : ∀ kk, Jd Tryz.prog kk .geq 3 (.int .i64 ref) (.int .i64 0) = some (.bool (decide (0 ≤ ref))) := fun kk => JP
 have eb : ∀ kk, Jd Tryz.prog kk .geq 3 (.int .i64 base) (.int .i64 0) = some (.bool (decide (0 ≤ base))) := fun kk => JP
 have hown : ∀ (r : List UInt8) (c : S), c.toList = JfQ p ++ [58, 32] ++ r → JeJ l ref kind text base = r → (cond (decide (0 ≤ ref)) [] (Jaa l kids names p) = []) → [c].map S.toList = J9 l (.mk ref kind text base nv names kv kids) p := fun r c hc hr h0 => by
  simp only [J9, h0, hr, List.map_cons, List.map_nil, hc]
 refine Ks_ (Ka_ (gs := [none, none]) fun K1 gK => ?_)
 simp (disch := omega) [hF, Ja, ho, hb]
 refine gK _ _ (Ks_ (Ka_ (gs := [none, none, none, none, none]) fun K1 gK => ?_))
 simp (disch := omega) [hF, hcs, hcp, ad0]
 refine gK _ _ (Ks_ (Ks_ (Ka_ (gs := [none, none, none]) fun K1 gK => ?_)))
 simp (disch := omega) [gT0, l0, er]
 refine gK _ _ ?_
 by_cases h0 : 0 ≤ ref
 ·
  refine Kt_ (by simp (disch := omega) [h0]) ?_
  have hr1 : ref < (l.length : Int) := by omega
  obtain ⟨v, q4, hcf, ⟨ft, rfl, hft, hftn⟩, k4⟩ := Says.use (Jo1 gl q x l hx hok hs hl hm ref h0 hr1)
  have a1 := fun kk => ads kk b [97, 115, 32] (by omega) (by simp)
  have a2 : ∀ kk, Jd Tryz.prog kk .add 9 (.str (b.app (S.ofList [97, 115, 32]))) (.str ft) = some (.str ((b.app (S.ofList [97, 115, 32])).app ft)) := fun kk => JA (by rw [QZ, Jf]; simp; omega)
  have hfold : ({ ctr := q4.ctr + 1, box := q4.box.put q4.ctr (.cells [.str ((b.app (S.ofList [97, 115, 32])).app ft)] 9 true (some 0)) } : St) = q4.new (.cells [.str ((b.app (S.ofList [97, 115, 32])).app ft)] 9 true (some 0)) := rfl
  have hmn := Jih (lo := st.ctr) (st := q4) (cs := [.str ((b.app (S.ofList [97, 115, 32])).app ft)]) (by have := k4.ctr; omega)
  simp only [List.length_cons, List.length_nil] at hmn
  refine Ks_ (Ka_ (gs := [none, none, none, none, none, none, none, none, none]) fun K1 gK => ?_)
  simp (disch := omega) [hF, gT0, l0, h0, a1, a2, hcf, bs1, hfold, Jt, JN]
  refine gK _ _ (Kq_ (gr _ _ ?_))
  simp [Jx, Tryz.f31, hF]
  refine hR _ _ ?_
  exact ⟨⟨[(b.app (S.ofList [97, 115, 32])).app ft], hown _ _ (by rw [S.toList_app, S.toList_app, hbl, S.toList_ofList, hft, List.append_assoc]) (by unfold JeJ; rw [decide_eq_true h0]; rfl) (by rw [decide_eq_true h0]; rfl), hmn⟩, kq.trans (k4.trans ((Keep.refl q4).new' _))⟩
 ·
  refine Kf_ (by simp (disch := omega) [h0]) ?_
  have hf0 : decide (0 ≤ ref) = false := decide_eq_false h0
  have hmf2 : ((kind = 0 ∨ kind = 1 ∨ kind = 3) ∧ kids = [] ∧ names = []) ∨ (kind = 2 ∧ names.length = kids.length ∧ (0 ≤ base → base < (l.length : Int)) ∧ ∀ t ∈ kids, JaH l t = true) := by
   rcases hmf with h | h
   ·exact absurd h.1 h0
   ·exact h.2
  have hno : kids = [] → cond (decide (0 ≤ ref)) [] (Jaa l kids names p) = [] := fun h => by rw [hf0, h, Ja5]; rfl
  refine Kk_ (Ks_ (Ks_ (Ka_ (gs := [none, none]) fun K1 gK => ?_)))
  simp (disch := omega) [gT1, l1, h0]
  refine gK _ _ ?_
  refine Kb_ fun K1 gn1 gx1 go1 => ?_
  have gr1 := fun fr st h => go1 AE.ret fr st trivial (gr fr st h)
  refine Ks_ (Ka_ (gs := [none, none]) fun K1 gK => ?_)
  simp (disch := omega) []
  refine gK _ _ ?_
  by_cases k0 : kind = 0
  ·
   refine Kt_ (by simp (disch := omega) [k0]) ?_
   have hkn : kids = [] := by rcases hmf2 with h | h; exact h.2.1; omega
   have a1 := fun kk => ads kk b [97, 98, 115, 101, 110, 116] (by omega) (by simp)
   have hfold : ({ ctr := q.ctr + 1, box := q.box.put q.ctr (.cells [.str (b.app (S.ofList [97, 98, 115, 101, 110, 116]))] 9 true (some 0)) } : St) = q.new (.cells [.str (b.app (S.ofList [97, 98, 115, 101, 110, 116]))] 9 true (some 0)) := rfl
   have hmn := Jih (lo := st.ctr) (st := q) (cs := [.str (b.app (S.ofList [97, 98, 115, 101, 110, 116]))]) (by omega)
   simp only [List.length_cons, List.length_nil] at hmn
   refine Ks_ (Ka_ (gs := [none, none, none, none]) fun K1 gK => ?_)
   simp (disch := omega) [k0, a1, bs1, hfold, Jt, JN]
   refine gK _ _ (Kq_ (gr1 _ _ ?_))
   simp [Jx, Tryz.f31, hF]
   refine hR _ _ ?_
   exact ⟨⟨[b.app (S.ofList [97, 98, 115, 101, 110, 116])], hown _ _ (by rw [S.toList_app, hbl, S.toList_ofList]) (by unfold JeJ; rw [hf0, decide_eq_true k0]; rfl) (hno hkn), hmn⟩, kq.trans ((Keep.refl q).new' _)⟩
  ·
   refine Kf_ (by simp (disch := omega) [k0]) ?_
   have hz0 : decide (kind = 0) = false := decide_eq_false k0
   obtain ⟨v, q5, hce, ⟨xt, rfl, hxt⟩, hq5⟩ := Says.use (JgL gl q text (by omega))
   rw [show q5 = q from hq5] at hce
   clear hq5
   have hxn : xt.n ≤ 10000 := by
    have h1 := congrArg List.length hxt
    have h2 := QK text.toList
    rw [S.len] at h1
    rw [S.len] at h2
    omega
   refine Ks_ (Ka_ (gs := [none, none]) fun K1 gK => ?_)
   simp (disch := omega) [k0]
   refine gK _ _ ?_
   by_cases k1 : kind = 1
   ·
    refine Kt_ (by simp (disch := omega) [k1]) ?_
    have hkn : kids = [] := by rcases hmf2 with h | h; exact h.2.1; omega
    have a1 := fun kk => ads kk b [102, 105, 108, 101, 32] (by omega) (by simp)
    have a2 : ∀ kk, Jd Tryz.prog kk .add 9 (.str (b.app (S.ofList [102, 105, 108, 101, 32]))) (.str xt) = some (.str ((b.app (S.ofList [102, 105, 108, 101, 32])).app xt)) := fun kk => JA (by rw [QZ, Jf]; simp; omega)
    have hfold : ({ ctr := q.ctr + 1, box := q.box.put q.ctr (.cells [.str ((b.app (S.ofList [102, 105, 108, 101, 32])).app xt)] 9 true (some 0)) } : St) = q.new (.cells [.str ((b.app (S.ofList [102, 105, 108, 101, 32])).app xt)] 9 true (some 0)) := rfl
    have hmn := Jih (lo := st.ctr) (st := q) (cs := [.str ((b.app (S.ofList [102, 105, 108, 101, 32])).app xt)]) (by omega)
    simp only [List.length_cons, List.length_nil] at hmn
    refine Ks_ (Ka_ (gs := [none, none, none, none, none, none, none, none]) fun K1 gK => ?_)
    simp (disch := omega) [hF, gT2, l2, k1, a1, a2, hce, bs1, hfold, Jt, JN]
    refine gK _ _ (Kq_ (gr1 _ _ ?_))
    simp [Jx, Tryz.f31, hF]
    refine hR _ _ ?_
    exact ⟨⟨[(b.app (S.ofList [102, 105, 108, 101, 32])).app xt], hown _ _ (by rw [S.toList_app, S.toList_app, hbl, S.toList_ofList, hxt, List.append_assoc]) (by unfold JeJ; rw [hf0, hz0, decide_eq_true k1]; rfl) (hno hkn), hmn⟩, kq.trans ((Keep.refl q).new' _)⟩
   ·
    refine Kf_ (by simp (disch := omega) [k1]) ?_
    have hz1 : decide (kind = 1) = false := decide_eq_false k1
    refine Ks_ (Ka_ (gs := [none, none]) fun K1 gK => ?_)
    simp (disch := omega) [k1]
    refine gK _ _ ?_
    by_cases k3 : kind = 3
    ·
     refine Kt_ (by simp (disch := omega) [k3]) ?_
     have hkn : kids = [] := by rcases hmf2 with h | h; exact h.2.1; omega
     have a1 := fun kk => ads kk b [108, 105, 110, 107, 32] (by omega) (by simp)
     have a2 : ∀ kk, Jd Tryz.prog kk .add 9 (.str (b.app (S.ofList [108, 105, 110, 107, 32]))) (.str xt) = some (.str ((b.app (S.ofList [108, 105, 110, 107, 32])).app xt)) := fun kk => JA (by rw [QZ, Jf]; simp; omega)
     have hfold : ({ ctr := q.ctr + 1, box := q.box.put q.ctr (.cells [.str ((b.app (S.ofList [108, 105, 110, 107, 32])).app xt)] 9 true (some 0)) } : St) = q.new (.cells [.str ((b.app (S.ofList [108, 105, 110, 107, 32])).app xt)] 9 true (some 0)) := rfl
     have hmn := Jih (lo := st.ctr) (st := q) (cs := [.str ((b.app (S.ofList [108, 105, 110, 107, 32])).app xt)]) (by omega)
     simp only [List.length_cons, List.length_nil] at hmn
     refine Ks_ (Ka_ (gs := [none, none, none, none, none, none, none, none]) fun K1 gK => ?_)
     simp (disch := omega) [hF, gT2, l2, k3, a1, a2, hce, bs1, hfold, Jt, JN]
     refine gK _ _ (Kq_ (gr1 _ _ ?_))
     simp [Jx, Tryz.f31, hF]
     refine hR _ _ ?_
     exact ⟨⟨[(b.app (S.ofList [108, 105, 110, 107, 32])).app xt], hown _ _ (by rw [S.toList_app, S.toList_app, hbl, S.toList_ofList, hxt, List.append_assoc]) (by unfold JeJ; rw [hf0, hz0, hz1, decide_eq_true k3]; rfl) (hno hkn), hmn⟩, kq.trans ((Keep.refl q).new' _)⟩
    ·
     refine Kf_ (by simp (disch := omega) [k3]) ?_
     have hz3 : decide (kind = 3) = false := decide_eq_false k3
     obtain ⟨k2, hnk, hbr, hmk⟩ : kind = 2 ∧ names.length = kids.length ∧ (0 ≤ base → base < (l.length : Int)) ∧ ∀ t ∈ kids, JaH l t = true := by
      rcases hmf2 with h | h
      ·omega
      ·exact h
     have a3 := fun kk => ads kk b [100, 105, 114] (by omega) (by simp)
     obtain ⟨b3, hb3⟩ : ∃ b3, b.app (S.ofList [100, 105, 114]) = b3 := ⟨_, rfl⟩
     have hbl3 : b3.toList = JfQ p ++ [58, 32] ++ [100, 105, 114] := by rw [← hb3, S.toList_app, hbl, S.toList_ofList]
     have hbn3 : b3.n ≤ 302005 := by rw [← hb3, QZ, Jf]; simp; omega
     rw [hb3] at a3
     refine Kk_ (gn1 _ _ (Ks_ (Ka_ (gs := [none, none, none]) fun K1 gK => ?_)))
     simp (disch := omega) [k3, a3]
     refine gK _ _ (Ks_ (Ks_ (Ka_ (gs := [none, none, none]) fun K1 gK => ?_)))
     simp (disch := omega) [gT3, l3, eb]
     refine gK _ _ ?_
     refine Km_ (fun fr st' => ∃ (t : S), Fs gl [(0, x), (2, y), (4, .ptr st.ctr 0), (8, .str t)] fr ∧ t.toList = JfQ p ++ [58, 32] ++ ([100, 105, 114] ++ JgN l base) ∧ t.n ≤ 700000 ∧ Keep q st') ?_ ?_
     ·as_aux_lemma =>
      intro K2 gm2 go2
      by_cases hb0 : 0 ≤ base
      ·
       refine Kt_ (by simp (disch := omega) [hb0]) ?_
       obtain ⟨v, q6, hcf, ⟨ft, rfl, hft, hftn⟩, k6⟩ := Says.use (Jo1 gl q x l hx hok hs hl hm base hb0 (hbr hb0))
       have a5 := fun kk => ads kk b3 [32, 111, 118, 101, 114, 32] (by omega) (by simp)
       have a6 : ∀ kk, Jd Tryz.prog kk .add 9 (.str (b3.app (S.ofList [32, 111, 118, 101, 114, 32]))) (.str ft) = some (.str ((b3.app (S.ofList [32, 111, 118, 101, 114, 32])).app ft)) := fun kk => JA (by rw [QZ, Jf]; simp; omega)
       refine Ka_ (gs := [none, none, none, none, none, none, none, none]) fun K1 gK => ?_
       simp (disch := omega) [hF, gT3, l3, hb0, a5, a6, hcf]
       refine gK _ _ ?_
       exact gm2 _ _ ⟨(b3.app (S.ofList [32, 111, 118, 101, 114, 32])).app ft, by simp [Fs, hF], by rw [S.toList_app, S.toList_app, hbl3, S.toList_ofList, hft]; unfold JgN; rw [decide_eq_true hb0]; simp, by rw [QZ, QZ, Jf]; simp; omega, k6⟩
      ·
       refine Kf_ (by simp (disch := omega) [hb0]) (Kk_ ?_)
       exact gm2 _ _ ⟨b3, by simp [Fs, hF, hb0], by rw [hbl3]; unfold JgN; rw [decide_eq_false hb0]; simp, by omega, .refl _⟩
     ·as_aux_lemma =>
      clear hF
      rintro fr st' ⟨t, hF, htl, htn, hkq⟩
      simp only [Fs] at hF
      obtain ⟨u0, hu0⟩ : ∃ u, u = st' := ⟨_, rfl⟩
      have hmn := Jih (lo := st.ctr + 1) (st := u0) (cs := [.str t]) (by have := hkq.ctr; rw [hu0]; omega)
      have hfold : ({ ctr := st'.ctr + 1, box := st'.box.put st'.ctr (.cells [.str t] 9 true (some 0)) } : St) = u0.new (.cells [.str t] 9 true (some 0)) := by rw [hu0]; rfl
      have ku : Keep q (u0.new (.cells [.str t] 9 true (some 0))) := by rw [hu0]; exact hkq.new' _
      have cu : (u0.new (.cells [.str t] 9 true (some 0))).ctr = st'.ctr + 1 := by rw [hu0]; rfl
      have huc : u0.ctr = st'.ctr := by rw [hu0]
      simp only [List.length_cons, List.length_nil] at hmn
      rw [huc] at hmn
      generalize u0.new (.cells [.str t] 9 true (some 0)) = u1 at hmn hfold ku cu
      have hlk := hkv.len Tryz.underlying24
      refine Ks_ (Ka_ (gs := [none, none, none]) fun K1 gK => ?_)
      simp (disch := omega) [hF, bs1, hfold, Jt, JN]
      refine gK _ _ (Ks_ (Ks_ (Ka_ (gs := [none]) fun K1 gK => ?_)))
      simp (disch := omega) []
      refine gK _ _ ?_
      refine Kl_ (kids.length) (fun i fr st' => ∃ (out : V) (ts : List S), Fs gl [(0, x), (2, y), (4, .ptr st.ctr 0), (9, out), (10, .int .i64 (i : Int))] fr ∧ i ≤ kids.length ∧ Keep q st' ∧ Mine (st.ctr + 1) 9 st' out (ts.map .str) ∧ ts.map S.toList = (JfQ p ++ [58, 32] ++ JeJ l ref kind text base) :: Jaa l (kids.take i) names p) (0) (fun fr st' => ∃ (out : V) (ts : List S), Fs gl [(9, out)] fr ∧ Keep q st' ∧ Mine (st.ctr + 1) 9 st' out (ts.map .str) ∧ ts.map S.toList = J9 l (.mk ref kind text base nv names kv kids) p) ?_ ?_ ?_ ?_
      ·exact ⟨.ms st'.ctr 0 1 1 (some 1), [t], by simp [Fs, hF], Nat.zero_le _, ku, hmn, by (rw [List.take_zero, Ja5, List.map_cons, htl]; unfold JeJ; rw [hf0, hz0, hz1, hz3]; rfl)⟩
      ·rintro i fr st' ⟨out, ts, _, hi, hku, hmine, hts⟩
       omega
      ·as_aux_lemma =>
       clear hF
       rintro i fr st' ⟨out, ts, hF, hi, hku, hmine, hts⟩ K3 gk3 gx3 go3
       simp only [Fs] at hF
       have hT1 := hT.keep hku
       have n5 := hT1.ld.l5
       have n4 := hT1.ld.l4
       refine Ks_ (Ks_ (Ka_ (gs := [none, none, none, none, none]) fun K1 gK => ?_))
       simp (disch := omega) [hF, gT5, n5, hlk]
       refine gK _ _ ?_
       by_cases hlt : i < kids.length
       ·
        refine Kt_ (by simp (disch := omega) [hlt]) ?_
        have hlt' : i < names.length := by omega
        have hkx := hkv.ix (fun t _ => t.len6) Tryz.underlying24 Jio (k := .i64) (a := (i : Int)) (by omega) (by omega)
        have hkd := fun st => Jnc (st := st) hlt
        have hnd := fun st => (hn.vw st).ld z9 a9 hlt'
        have hns := (hn.vw st).ix Tryz.underlying23 z9 (k := .i64) (a := (i : Int)) (by omega) (by omega)
        have hkc := hku.ctr
        have hy' := hy.keep (kq.trans hku)
        obtain ⟨sA, hsA⟩ : ∃ s : St, s = { ctr := st'.ctr + 20, box := st'.box.put (st'.ctr + 7) (.cells [] 9 true (some 0)) } := ⟨_, rfl⟩
        have kA : Keep st' sA := by rw [hsA]; exact ((Keep.refl st').tick 20).put (by omega) _
        have cA : sA.ctr = st'.ctr + 20 := by rw [hsA]
        have gA : sA.box.get (st'.ctr + 7) = some (.cells [] 9 true (some 0)) := by rw [hsA]; simp [Tr.get_put]
        have m7 := Jdf (lo := st'.ctr) (by omega) (by omega) gA
        obtain ⟨y9, s9, e9, low9, m9, v9⟩ := Jds m7 (hy'.keep kA).srcs (by omega) (by simp; omega)
        simp only [List.length_nil] at e9 m7 v9
        have c9 := low9.ctr
        obtain ⟨sC, hsC⟩ : ∃ s : St, s = { ctr := s9.ctr, box := s9.box.put (st'.ctr + 15) (.cells [.str names[i]] 9 true (some 0)) } := ⟨_, rfl⟩
        have gC : sC.box.get (st'.ctr + 15) = some (.cells [.str names[i]] 9 true (some 0)) := by rw [hsC]; simp [Tr.get_put]
        have cC : sC.ctr = s9.ctr := by rw [hsC]
        have oC : ∀ j, j ≠ st'.ctr + 15 → sC.box.get j = s9.box.get j := fun j hj => by rw [hsC]; show (s9.box.put (st'.ctr + 15) _).get j = _; rw [Tr.get_put, if_neg hj]
        have m9' : Mine st'.ctr 9 sC y9 ([] ++ p.map .str) := m9.stab (by omega) fun j hj => oC j (by
         rcases v9 j hj with h | h
         ·have : j = st'.ctr + 7 := h
          omega
         ·omega)
        have mC := (Jdf (lo := st'.ctr) (by omega) (by omega) gC).src rfl
        obtain ⟨y16, s16, e16, low16, m16, v16⟩ := Jds m9' mC (by omega) (by simp; omega)
        simp only [List.length_cons, List.length_nil] at e16
        have hm16 : Mine st'.ctr 9 s16 y16 ((p ++ [names[i]]).map .str) := by simpa using m16
        have hkin := List.getElem_mem hlt
        have hnk1 := Ja3 hkin
        obtain ⟨v, s17, hcl, ⟨ts2, hts2, m17⟩, k17⟩ := Says.use (ih kids[i] hkin (hmk _ hkin) s16 y16 (p ++ [names[i]]) hm16.vw (by simp; omega) (Jeg hps (hnt _ (List.getElem_mem hlt'))))
        have c16 := low16.ctr
        have lowA : Low st'.ctr st' s16 := ((Low.of kA (Nat.le_refl _)).trans low9).trans (⟨by omega, fun j hj => by rw [low16.box j hj, oC j (by omega)]⟩)
        have low9' : Low st'.ctr st' s9 := (Low.of kA (Nat.le_refl _)).trans low9
        have k17' : Keep st' s17 := Low.keep (lowA.trans (Low.of k17 (by omega))) (.refl _) (Nat.le_refl _)
        have k9' : Keep st' s9 := Low.keep low9' (.refl _) (Nat.le_refl _)
        have k16' : Keep st' s16 := Low.keep lowA (.refl _) (Nat.le_refl _)
        have hlen2 : ts2.length ≤ 1000 := by
         have h1 := congrArg List.length hts2
         rw [List.length_map] at h1
         have := Jb9 l kids[i] (p ++ [names[i]])
         omega
        have hlen1 : ts.length ≤ 1000 := by
         have h1 := congrArg List.length hts
         rw [List.length_map, List.length_cons] at h1
         have := JdD l (kids.take i) names p
         have := JcH kids i
         omega
        have c17 := k17'.ctr
        obtain ⟨y18, s18, e18, low18, m18, v18⟩ := Jds (hmine.keep k17') (m17.src (JfZ ts2)) (by omega) (by simp; omega)
        have lk9 := (hT1.keep k9').ld.l5
        have ln9 := (hT1.keep k9').ld.l4
        have lk16 := (hT1.keep k16').ld.l5
        have vqn : veq 1000000000 nv nv = true := Qi _ (by have := JaG hn; omega)
        have hvt1 := hvt _ hkin
        have hsA' := hsA.symm
        have hsC' := hsC.symm
        refine Kk_ (Ks_ ?_)
        refine Kb_ fun K4 gn4 gx4 go4 => ?_
        refine Kj_ (b := [0, 0, 0, 4, 0, 28, 60, 0, 0, 384, 0, 1024, 0, 7168, 15360, 31744, 65408, 131070, 262143, 524287]) (rs := [(7, 10), (1, 6), (17, 1), (0, 1), (18, 2)]) fun K1 gK => ?_
        simp (disch := omega) [hF, gT4, gT5, bs1, n5, n4, hlt, hkd, hkx, hnd, hns, hsA', hsC', e9, e16, hcl, e18, lk9, ln9, lk16, hvk, vqn, hvt1, bs0, bs1, Jt, JN, Tryz.underlying23]
        refine gK _ _ (gn4 _ _ (Ka_ (gs := [none, none, none]) fun K1 gK => ?_))
        simp (disch := omega) [hF]
        refine gK _ _ ?_
        refine gk3 (i + 1) _ _ (by omega) ⟨y18, ts ++ ts2, by simp [Fs, hF], by omega, Low.keep low18 (hku.trans k17') (by omega), by simpa using m18, by (rw [List.map_append, hts, hts2, JeK l kids names p i hlt hlt']; simp)⟩
       ·
        refine Kf_ (by simp (disch := omega) [hlt]) ?_
        exact Kx_ (gx3 _ _ ⟨out, ts, by simp [Fs, hF, hlt], hku, hmine, by (rw [hts, List.take_of_length_le (by omega)]; simp only [J9, hf0, cond_false])⟩)
      ·as_aux_lemma =>
       clear hF
       rintro fr st' ⟨out, ts, hF, hku, hmine, hts⟩
       simp only [Fs] at hF
       refine Ks_ (Ka_ (gs := [none, none]) fun K1 gK => ?_)
       simp (disch := omega) [hF]
       refine gK _ _ (Kq_ (gr _ _ ?_))
       simp [Jx, Tryz.f31, hF]
       refine hR _ _ ?_
       exact ⟨⟨ts, hts, hmine.low (by omega)⟩, kq.trans hku⟩
omit [NZ] [NO] in
theorem Jl7 (gl : Gl) (x : V) (l : List Fw) (hx : Row Fw.cells x l) (hok : ∀ f ∈ l, f.ok) (hs : ∀ f ∈ l, f.small) (hl : l.length ≤ 60) (hm : MayF l) {t : Tw} (hto : t.ok) : t.small → t.nodes ≤ 100000 → JaH l t = true → Jnj gl x l t := by
 induction hto with
 | mk ref kind text base nv names kv kids hk hn hkv hks ih =>
  intro hsm hnd hmay
  cases hsm with
  | mk _ _ _ _ _ _ _ _ ht hnl hnt hkl hks' =>
   have hz : ∀ t ∈ kids, Jad t.cells ≤ 1000 * t.nodes := fun t ht => Jir (hks t ht) (hks' t ht)
   have hkn : QC kids ≤ 100000 := by simp only [Tw.nodes] at hnd; omega
   refine fun st y p hy hp hps => Jju gl x l hx hok hs hl hm ref kind text base nv names kv kids hk hn hkv hks ht hnl hnt hkl (Qi _ ?_) (fun t ht => Qi _ ?_) hmay (fun t ht hmt => ih t ht (hks' t ht) ?_ hmt) st y p hy (by simpa only [Tw.nodes] using hp) hps
   ·have := Jkl hkv hz; omega
   ·have := hz t ht
    have := Ja3 ht
    show Jad t.cells + 1 < _; omega
   ·have := Ja3 ht; omega
end Go.Vm
