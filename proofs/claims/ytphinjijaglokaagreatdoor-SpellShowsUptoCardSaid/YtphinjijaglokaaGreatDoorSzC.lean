/- Which texts, files and links may be: by the program. -/
import Derived.Test.YtphinjijaglokaaGreatDoorSzA
import Derived.Test.YtphinjijaglokaaGreatDoorSz4
import Derived.Test.YtphinjijaglokaaGreatDoorSzB
namespace Go.Vm
open Go Go.Proofs Go.Pa
attribute [local simp] OkG Qh Qp OkD JY Qr JI Jm Jq vop Js JB ev evs toV Jl Fr.dsTo Fr.glTo Fr.toNone Ji Jj Jk Qk QL Jd JD Jv V.undef JW JM J7 JX J3 J9 J8 Qa JH J4 J5 JZ JO Qb Jt Ju Jw Jz JE Jr JL JN JK Qq
def noZ (s : S) : Bool := !s.toList.contains 0
def Jdz (s : S) : Bool := noZ s && decide (s.n ≤ 256)
theorem Jlm (s : S) : decide (Lib.indexByte s.toList 0 < 0) = noZ s := by
 have h := JbR s.toList 0
 unfold noZ
 by_cases hm : (0 : UInt8) ∈ s.toList
 ·rw [decide_eq_false (by have := h.2 hm; omega)]
  simp [hm]
 ·rw [decide_eq_true (by have : ¬ 0 ≤ Lib.indexByte s.toList 0 := fun hh => hm (h.1 hh); omega)]
  simp [hm]
def Joy (s : S) (i : Nat) : Prop := ∀ j, j < i → j < s.n → s.at j ≠ 0
theorem Jn5 {s : S} {i : Nat} (h : Joy s i) (hi : s.n ≤ i) : noZ s = true := by
 unfold noZ
 rw [Bool.not_eq_true', ← Bool.not_eq_true, List.contains_iff_mem]
 intro hm
 obtain ⟨j, hj, he⟩ := List.getElem_of_mem hm
 have hj' : j < s.n := by rw [← S.len]; exact hj
 have h1 := s.toList_at hj'
 rw [List.getElem?_eq_getElem hj] at h1
 have h2 : s.toList[j] = UInt8.ofNat (s.at j) := by simpa using h1
 rw [he] at h2
 exact h j (by omega) hj' ((Jdj (S.at_lt s j) (by decide : 0 < 256)).1 h2.symm)
theorem Jo4 {s : S} {i : Nat} (hi : i < s.n) (h : s.at i = 0) : noZ s = false := by
 unfold noZ
 have h1 := s.toList_at hi
 rw [h] at h1
 have hm : (0 : UInt8) ∈ s.toList := List.mem_of_getElem? h1
 simp [hm]
variable [Memo] [NY]
set_option maxRecDepth 100000 in
theorem Jn6 (gl : Gl) (st : St) (s : S) (hs : s.n ≤ 100000) :
  Says Tryz.prog gl 43 [.str s] st (fun v st' => v = .bool (Jdz s) ∧ Sm st st') := by
 refine JS (NY.no _ rfl rfl rfl _ _) Tryz.func43 rfl (by kernel_rfl) fun R hR K gr gn => ?_
 generalize hfr : Jx gl [.str s] = fr
 have hF : Fs gl [(0, .str s)] fr := by subst hfr; simp [Fs]
 simp only [Fs] at hF
 clear hfr
 have ls := Jar Tryz.underlying9 (s := s)
 refine Ks_ (Ka_ (gs := [none]) fun K1 gK => ?_)
 simp (disch := omega) []
 refine gK _ _ (Ks_ (Ks_ (Ka_ (gs := [none]) fun K1 gK => ?_)))
 simp (disch := omega) []
 refine gK _ _ ?_
 refine Kl_ (s.n) (fun i fr st' => Fs gl [(0, .str s), (3, .int .i64 (i : Int))] fr ∧ i ≤ s.n ∧ Joy s i ∧ st = st') (0) (fun fr st' => Fs gl [(0, .str s)] fr ∧ noZ s = true ∧ st = st') ?_ ?_ ?_ ?_
 ·exact ⟨by simp [Fs, hF], Nat.zero_le _, fun j hj => absurd hj (Nat.not_lt_zero j), rfl⟩
 ·rintro i fr st' ⟨_, hi, hz, rfl⟩
  omega
 ·as_aux_lemma =>
  clear hF
  rintro i fr st' ⟨hF, hi, hz, rfl⟩ K1 gk1 gx1 go1
  simp only [Fs] at hF
  have gr1 := fun fr st h => go1 AE.ret fr st trivial (gr fr st h)
  refine Ks_ (Ks_ (Ka_ (gs := [none, none, none, none]) fun K1 gK => ?_))
  simp (disch := omega) [hF, ls]
  refine gK _ _ ?_
  by_cases hlt : i < s.n
  ·
   refine Kt_ (by simp (disch := omega) [hlt]) ?_
   have hix := Qw (P := Tryz.prog) (k := .i64) Tryz.underlying9 hlt
   have hcl := S.at_lt s i
   refine Kk_ (Ks_ ?_)
   refine Kb_ fun K2 gn2 gx2 go2 => ?_
   have gr2 := fun fr st h => go2 AE.ret fr st trivial (gr1 fr st h)
   refine Ks_ (Ka_ (gs := [none, none, none, none]) fun K1 gK => ?_)
   simp (disch := omega) [hF, hlt, hix]
   refine gK _ _ ?_
   by_cases h0 : s.at i = 0
   ·
    refine Kt_ (by simp (disch := omega) [h0]) (Ks_ (Ka_ (gs := [none]) fun K1 gK => ?_))
    simp (disch := omega) [h0]
    refine gK _ _ (Kq_ (gr2 _ _ ?_))
    simp [JC, Tryz.f43, hF]
    refine hR _ _ ?_
    exact ⟨by rw [Jdz, Jo4 hlt h0]; rfl, rfl⟩
   ·
    refine Kf_ (by simp (disch := omega) [h0]) (Kk_ (gn2 _ _ (Ka_ (gs := [none, none, none]) fun K1 gK => ?_)))
    simp (disch := omega) [hF, h0]
    refine gK _ _ ?_
    refine gk1 (i + 1) _ _ (by omega) ⟨by simp [Fs, hF], by omega, fun j hj hjn => by by_cases he : j = i; exact he ▸ h0; exact hz j (by omega) hjn, rfl⟩
  ·
   refine Kf_ (by simp (disch := omega) [hlt]) ?_
   exact Kx_ (gx1 _ _ ⟨by simp [Fs, hF, hlt], Jn5 hz (by omega), rfl⟩)
 ·as_aux_lemma =>
  clear hF
  rintro fr st' ⟨hF, hz, rfl⟩
  simp only [Fs] at hF
  refine Ks_ (Ka_ (gs := [none, none, none, none]) fun K1 gK => ?_)
  simp (disch := omega) [hF, ls]
  refine gK _ _ (Kq_ (gr _ _ ?_))
  simp [JC, Tryz.f43, hF]
  refine hR _ _ ?_
  exact ⟨by rw [Jdz, hz, Bool.true_and], rfl⟩
end Go.Vm
namespace Go.Vm
open Go Go.Proofs Go.Pa
attribute [local simp] OkS Qi OkG Qh Qp OkD JY Qr JI Jm Jq vop Js JB ev evs toV Jl Fr.dsTo Fr.glTo Fr.toNone Ji Jj Jk Qk QL Jd JD Jv V.undef JW JM J7 JX J3 J9 J8 Qa JH J4 J5 JZ JO Qb Jt Ju Jw Jz JE Jr JL JN JK Qq
theorem JmX : ∀ {l : List UInt8}, 58 ∈ l → ∃ pre rest, l = pre ++ 58 :: rest ∧ 58 ∉ pre ∧ l.takeWhile (· ≠ 58) = pre
 | [], h => by simp at h
 | a :: l, h => by
  by_cases ha : a = 58
  ·subst ha; exact ⟨[], l, rfl, by simp, by simp⟩
  ·have hl : 58 ∈ l := by
    rcases List.mem_cons.1 h with h | h
    ·exact absurd h.symm ha
    ·exact h
   obtain ⟨p, r, h1, h2, h3⟩ := JmX hl
   refine ⟨a :: p, r, by rw [h1]; rfl, fun hm => ?_, by rw [List.takeWhile_cons, if_pos (by simpa using ha), h3]⟩
   rcases List.mem_cons.1 hm with hm | hm
   ·exact ha hm.symm
   ·exact h2 hm
theorem JmY {l : List UInt8} (h : 0 < l.count 58) : ∃ pre rest, l = pre ++ 58 :: rest ∧ 58 ∉ pre ∧ Lib.indexByte l 58 = (pre.length : Int) ∧ rest.count 58 + 1 = l.count 58 := by
 have hm : (58 : UInt8) ∈ l := List.count_pos_iff.1 h
 obtain ⟨p, r, h1, h2, h3⟩ := JmX hm
 refine ⟨p, r, h1, h2, by rw [Jbl, if_pos hm, h3], ?_⟩
 rw [h1, List.count_append, List.count_cons, List.count_eq_zero.2 h2]
 simp
theorem JbN : Jab Tryz.prog 9 (.str (S.ofList [58])) = some (.int .i64 1) := by simp only [Jab, Tryz.underlying9]; rfl
variable [Memo] [NY]
set_option maxRecDepth 100000 in
theorem JmZ (gl : Gl) (st : St) (s : S) (hs : s.n ≤ 100000) :
  Says Tryz.prog gl 53 [.str s] st (fun v st' => (∃ t : S, v = .str t ∧ t.toList = esc s.toList) ∧ Sm st st') := by
 refine JS (NY.no _ rfl rfl rfl _ _) Tryz.func53 rfl (by kernel_rfl) fun R hR K gr gn => ?_
 generalize hfr : Jx gl [.str s] = fr
 have hF : Fs gl [(0, .str s)] fr := by subst hfr; simp [Fs]
 simp only [Fs] at hF
 clear hfr
 have ls := Jar Tryz.underlying9 (s := s)
 refine Ks_ (Ka_ (gs := [none]) fun K1 gK => ?_)
 simp (disch := omega) []
 refine gK _ _ (Ks_ (Ka_ (gs := [none]) fun K1 gK => ?_))
 simp (disch := omega) []
 refine gK _ _ (Ks_ (Ks_ (Ka_ (gs := [none]) fun K1 gK => ?_)))
 simp (disch := omega) []
 refine gK _ _ ?_
 refine Kl_ (s.n) (fun i fr st' => ∃ (acc : S), Fs gl [(0, .str s), (3, .str acc), (4, .int .i64 (i : Int))] fr ∧ i ≤ s.n ∧ acc.toList = esc (s.toList.take i) ∧ st = st') (0) (fun fr st' => ∃ (acc : S), Fs gl [(3, .str acc)] fr ∧ acc.toList = esc s.toList ∧ st = st') ?_ ?_ ?_ ?_
 ·exact ⟨⟨0, 0⟩, by simp [Fs, hF, S.ofList, enc],  Nat.zero_le _, rfl, rfl⟩
 ·rintro i fr st' ⟨acc, _, hi, hacc, rfl⟩
  omega
 ·as_aux_lemma =>
  clear hF
  rintro i fr st' ⟨acc, hF, hi, hacc, rfl⟩ K1 gk1 gx1 go1
  simp only [Fs] at hF
  refine Ks_ (Ks_ (Ka_ (gs := [none, none, none, none]) fun K1 gK => ?_))
  simp (disch := omega) [hF, ls]
  refine gK _ _ ?_
  by_cases hlt : i < s.n
  ·
   refine Kt_ (by simp (disch := omega) [hlt]) ?_
   have hix := Qw (P := Tryz.prog) (k := .i64) Tryz.underlying9 hlt
   have han : acc.n ≤ 2 * i := by
    have h1 := congrArg List.length hacc
    have h2 := JbC (s.toList.take i)
    rw [S.len] at h1
    rw [List.length_take, S.len] at h2
    omega
   have ad1 : ∀ kk, Jn Tryz.prog kk .add 9 (.str acc) (.str (S.ofList [92, 110])) = some (.str (acc.app (S.ofList [92, 110]))) := fun kk => Jai (by rw [Qu]; simp; omega)
   have ad2 : ∀ kk, Jn Tryz.prog kk .add 9 (.str acc) (.str (S.ofList [92, 92])) = some (.str (acc.app (S.ofList [92, 92]))) := fun kk => Jai (by rw [Qu]; simp; omega)
   have ad3 : ∀ kk, Jn Tryz.prog kk .add 9 (.str acc) (.str (s.cut i (i + 1))) = some (.str (acc.app (s.cut i (i + 1)))) := fun kk => Jai (by rw [Jgd]; omega)
   have hsl : Jan Tryz.prog 9 (.str s) (some (.int .i64 (i : Int))) (some (.int .i64 ((i : Int) + 1))) = some (.str (s.cut i (i + 1))) := Jc4 (hi := i + 1) Tryz.underlying9 (by omega) (by omega)
   have hcl := S.at_lt s i
   refine Kk_ (Ks_ ?_)
   refine Kb_ fun K2 gn2 gx2 go2 => ?_
   refine Ks_ (Ka_ (gs := [none, none, none]) fun K1 gK => ?_)
   simp (disch := omega) [hF, hlt, hix]
   refine gK _ _ ?_
   refine Km_ (fun fr st' => ∃ (acc : S), Fs gl [(0, .str s), (3, .str acc), (4, .int .i64 (i : Int))] fr ∧ acc.toList = esc (s.toList.take (i + 1)) ∧ st = st') ?_ ?_
   ·as_aux_lemma =>
    intro K3 gm3 go3
    refine Kb_ fun K4 gn4 gx4 go4 => ?_
    refine Ks_ (Ka_ (gs := [none, none]) fun K1 gK => ?_)
    simp (disch := omega) []
    refine gK _ _ ?_
    by_cases h10 : s.at i = 10
    ·
     refine Kt_ (by simp (disch := omega) [h10]) (Ka_ (gs := [none, none, none]) fun K1 gK => ?_)
     simp (disch := omega) [hF, ad1, h10]
     refine gK _ _ (gn4 _ _ ?_)
     exact gm3 _ _ ⟨acc.app (S.ofList [92, 110]), by simp [Fs, hF], by rw [S.toList_app, hacc, JdF s hlt, JdZ, h10, S.toList_ofList]; rfl, rfl⟩
    ·
     refine Kf_ (by simp (disch := omega) [h10]) (Ks_ (Ka_ (gs := [none, none]) fun K1 gK => ?_))
     simp (disch := omega) [h10]
     refine gK _ _ ?_
     by_cases h92 : s.at i = 92
     ·
      refine Kt_ (by simp (disch := omega) [h92]) (Ka_ (gs := [none, none, none]) fun K1 gK => ?_)
      simp (disch := omega) [hF, ad2, h92]
      refine gK _ _ (gn4 _ _ ?_)
      exact gm3 _ _ ⟨acc.app (S.ofList [92, 92]), by simp [Fs, hF], by rw [S.toList_app, hacc, JdF s hlt, JdZ, h92, S.toList_ofList]; rfl, rfl⟩
     ·
      refine Kf_ (by simp (disch := omega) [h92]) (Ka_ (gs := [none, none, none, none, none, none, none, none]) fun K1 gK => ?_)
      simp (disch := omega) [hF, ad3, hsl, h92]
      refine gK _ _ (gn4 _ _ ?_)
      exact gm3 _ _ ⟨acc.app (s.cut i (i + 1)), by simp [Fs, hF], by rw [S.toList_app, hacc, JdF s hlt, JdZ, JlE hlt]; simp [esc, Jez hcl h10 h92], rfl⟩
   ·as_aux_lemma =>
    clear hF
    rintro fr st' ⟨acc, hF, hacc, rfl⟩
    simp only [Fs] at hF
    refine gn2 _ _ (Ka_ (gs := [none, none, none]) fun K1 gK => ?_)
    simp (disch := omega) [hF]
    refine gK _ _ ?_
    refine gk1 (i + 1) _ _ (by omega) ⟨acc, by simp [Fs, hF], by omega, hacc, rfl⟩
  ·
   refine Kf_ (by simp (disch := omega) [hlt]) ?_
   exact Kx_ (gx1 _ _ ⟨acc, by simp [Fs, hF, hlt], by rw [hacc, List.take_of_length_le (by rw [S.len]; omega)], rfl⟩)
 ·as_aux_lemma =>
  clear hF
  rintro fr st' ⟨acc, hF, hacc, rfl⟩
  simp only [Fs] at hF
  refine Ks_ (Ka_ (gs := [none, none]) fun K1 gK => ?_)
  simp (disch := omega) [hF]
  refine gK _ _ (Kq_ (gr _ _ ?_))
  simp [JC, Tryz.f53, hF]
  refine hR _ _ ?_
  exact ⟨⟨_, rfl, hacc⟩, rfl⟩
variable [NZ] [NO]
end Go.Vm
namespace Go.Vm
open Go Go.Proofs Go.Pa
attribute [local simp] OkS Qi OkG Qh Qp OkD JY Qr JI Jm Jq vop Js JB ev evs toV Jl Fr.dsTo Fr.glTo Fr.toNone Ji Jj Jk Qk QL Jd JD Jv V.undef JW JM J7 JX J3 J9 J8 Qa JH J4 J5 JZ JO Qb Jt Ju Jw Jz JE Jr JL JN JK Qq
theorem Jb8 : Jat Tryz.prog 42 = some (.agg [.nilp, .nils]) := by kernel_rfl
theorem Jm0 {s : S} : (S.ofList [58]).same s = true ↔ s.toList = [58] := by rw [S.same_eq, S.toList_ofList, beq_iff_eq]; exact ⟨Eq.symm, Eq.symm⟩
variable [Memo] [NY]
set_option maxHeartbeats 1000000 in
set_option maxRecDepth 100000 in
theorem Jp7 (gl : Gl) (st : St) (s : S) :
  Says Tryz.prog gl 98 [.str s, .str (S.ofList [58])] st (fun v st' => v = .int .i64 (Lib.indexByte s.toList 58) ∧ Sm st st') := by
 refine JS (NY.no _ rfl rfl rfl _ _) Tryz.func98 rfl (by kernel_rfl) fun R hR K gr gn => ?_
 generalize hfr : Jx gl [.str s, .str (S.ofList [58])] = fr
 have hF : Fs gl [(0, .str s), (1, .str (S.ofList [58]))] fr := by subst hfr; simp [Fs]
 simp only [Fs] at hF
 clear hfr
 have hc := J6 (P := Tryz.prog) (ih := ihCall (W Tryz.prog)) (gl := gl) (args := [.str s, .int .u8 ((58 : Nat) : Int)]) (st := st) (show Qx Tryz.prog 58 = true by kernel_rfl)
 rw [Q1 (JdD gl st s 58)] at hc
 have hc : JaM Tryz.prog (ihCall (W Tryz.prog)) gl 58 [.str s, .int .u8 58] st = .val (.int .i64 (Lib.indexByte s.toList 58)) st := hc
 have hix : Jao Tryz.prog 9 (.str (S.ofList [58])) (.int .i64 0) = some (.int .u8 58) := by kernel_rfl
 have e0 : ∀ kk, Jn Tryz.prog kk .eql 3 (.int .i64 1) (.int .i64 0) = some (.bool false) := fun kk => Jb4
 have e1 : ∀ kk, Jn Tryz.prog kk .eql 3 (.int .i64 1) (.int .i64 1) = some (.bool true) := fun kk => Jb4
 obtain ⟨B, hB⟩ : ∃ b, (S.ofList [58]).same s = b := ⟨_, rfl⟩
 refine Ks_ (Ka_ (gs := [none]) fun K1 gK => ?_)
 simp (disch := omega) []
 refine gK _ _ (Ks_ (Ka_ (gs := [none, none, none]) fun K1 gK => ?_))
 simp (disch := omega) [hF, JbN]
 refine gK _ _ (Ks_ ?_)
 refine Kb_ fun K1 gn1 gx1 go1 => ?_
 have gr1 := fun fr st h => go1 AE.ret fr st trivial (gr fr st h)
 refine Ks_ (Ka_ (gs := [none, none, none, some (some 19, false), some (some 19, false), some (some 19, false), none, none]) fun K1 gK => ?_)
 simp (disch := omega) [hF, e0, hB]
 refine gK _ _ ?_
 cases B with
 | true =>
  refine Kt_ (by simp (disch := omega) []) ?_
  have hl := Jm0.1 hB
  have hz : Lib.indexByte s.toList 58 = 0 := by rw [hl]; rfl
  refine Ks_ (Ka_ (gs := [none]) fun K1 gK => ?_)
  simp (disch := omega) []
  refine gK _ _ (Kq_ (gr1 _ _ ?_))
  simp [JC, Tryz.f98, hF]
  refine hR _ _ ?_
  exact ⟨by rw [hz], rfl⟩
 | false =>
  refine Kf_ (by simp (disch := omega) []) (Ks_ (Ka_ (gs := [none, none, none]) fun K1 gK => ?_))
  simp (disch := omega) [e1]
  refine gK _ _ (Kt_ (by simp (disch := omega) []) (Ks_ (Ka_ (gs := [none, none, none, none, none]) fun K1 gK => ?_)))
  simp (disch := omega) [hF, hc, hix]
  refine gK _ _ (Kq_ (gr1 _ _ ?_))
  simp [JC, Tryz.f98, hF]
  refine hR _ _ ?_
  exact ⟨rfl, rfl⟩
variable [NZ] [NO]
end Go.Vm
