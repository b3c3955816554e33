/- Which texts, files and links may be: by the program. -/
import Derived.Test.YtlholbhaajklhaaGreatDoorRzA
namespace Go.Vm
open Go Go.Proofs Go.Pa
attribute [local simp] OkG Qf Qs OkD J3 Qe JL Je Jk vop Jq Jx ev evs toV Jj Fr.dsTo Fr.glTo Fr.toNone Jg Jh Ji J7 QI Jc JF Jt V.undef JX JQ Qg J8 J9 Qa Qh Qi JT Qb Qj Qc JR Qk JE Jw Jy JD JG Ju JS JW JK Ql
def noZ (s : S) : Bool := !s.toList.contains 0
def Jox (s : S) : Bool := noZ s && decide (s.n ≤ 256)
def JfK (k : Nat) (s : S) : Bool := (decide (k = 1) || decide (k = 3)) && (Jox s && (decide (k = 1) || !decide (s.n = 0)))
theorem Jlt (s : S) : decide (Lib.indexByte s.toList 0 < 0) = noZ s := by
 have h := Jcx s.toList 0
 unfold noZ
 by_cases hm : (0 : UInt8) ∈ s.toList
 ·rw [decide_eq_false (by have := h.2 hm; omega)]
  simp [hm]
 ·rw [decide_eq_true (by have : ¬ 0 ≤ Lib.indexByte s.toList 0 := fun hh => hm (h.1 hh); omega)]
  simp [hm]
theorem JpO : JU Tryz.prog 90 = some 1 := by kernel_rfl
theorem JpP : QM Tryz.prog 90 = some false := by kernel_rfl
theorem gN0 (id : Nat) : Jo Tryz.prog 92 (.ptr id 0) 0 = some (.ptr id 0) := by kernel_rfl
theorem gN1 (id : Nat) : Jo Tryz.prog 92 (.ptr id 0) 1 = some (.ptr id 1) := by kernel_rfl
theorem gN2 (id : Nat) : Jo Tryz.prog 92 (.ptr id 0) 2 = some (.ptr id 2) := by kernel_rfl
theorem gN3 (id : Nat) : Jo Tryz.prog 92 (.ptr id 0) 3 = some (.ptr id 3) := by kernel_rfl
def Jd0 (k : Nat) (s : S) : List V := [.int .u8 (k : Int), .str s, .nils, .nils]
theorem Q0 : QY Tryz.prog 90 .nils = some (.int .i64 0) := by kernel_rfl
theorem QE : QY Tryz.prog 23 .nils = some (.int .i64 0) := by kernel_rfl
variable [Memo] [NY]
set_option maxHeartbeats 1000000 in
set_option maxRecDepth 100000 in
theorem Jpr (gl : Gl) (st : St) (k : Nat) (_hk : k < 256) (h2 : k ≠ 2) (s : S) :
  Says Tryz.prog gl 79 [.agg (Jd0 k s)] st (fun v st' => v = .bool (JfK k s) ∧ Keep st st') := by
 refine QD (NY.no _ rfl rfl rfl _ _) Tryz.func79 rfl (by kernel_rfl) fun R hR K gr gn => ?_
 generalize hfr : JH gl [.agg (Jd0 k s)] = fr
 have hF : Fs gl [(0, .agg (Jd0 k s))] fr := by subst hfr; simp [Fs]
 simp only [Fs] at hF
 clear hfr
 have kq := Qz st (Jd0 k s) 92
 have bq := Jdh st (Jd0 k s) 92
 have hb := Jaa st (Jd0 k s) 92
 have ho : (Jd0 k s).all JZ = true := rfl
 generalize Jao st (Jd0 k s) 92 = q at kq hb bq
 have l0 := Jb (P := Tryz.prog) (off := 0) a5 z5 bq rfl
 have l1 := Jb (P := Tryz.prog) (off := 1) a9 z9 bq rfl
 have l2 := Jb (P := Tryz.prog) (off := 2) a23 z23 bq rfl
 have l3 := Jb (P := Tryz.prog) (off := 3) JpP JpO bq rfl
 have ls := Jap Tryz.underlying9 (s := s)
 have hc := Jp (P := Tryz.prog) (ih := ihCall (W Tryz.prog)) (gl := gl) (args := [.str s, .int .u8 ((0 : Nat) : Int)]) (st := q) (show JN Tryz.prog 95 = true by kernel_rfl)
 rw [J1 (JcG gl q s 0)] at hc
 have hz := Jlt s
 have hem := Q4 s
 simp only [JfK, Jox] at hR
 rw [← hz] at hR
 obtain ⟨w, hw⟩ : ∃ w, Lib.indexByte s.toList 0 = w := ⟨_, rfl⟩
 have hc : Jax Tryz.prog (ihCall (W Tryz.prog)) gl 95 [.str s, .int .u8 0] q = .val (.int .i64 w) q := by rw [← hw]; exact hc
 rw [hw] at hR
 have e0 : ∀ kk, Jf Tryz.prog kk .lss 3 (.int .i64 w) (.int .i64 0) = some (.bool (decide (w < 0))) := fun kk => QF
 have hsm := hem
 obtain ⟨B1, hB1⟩ : ∃ b, decide (k = 1) = b := ⟨_, rfl⟩
 obtain ⟨B3, hB3⟩ : ∃ b, decide (k = 3) = b := ⟨_, rfl⟩
 obtain ⟨N, hN⟩ : ∃ b, decide (s.n ≤ 256) = b := ⟨_, rfl⟩
 obtain ⟨Z, hZ⟩ : ∃ b, decide (w < 0) = b := ⟨_, rfl⟩
 obtain ⟨E, hE⟩ : ∃ b, decide (s.n = 0) = b := ⟨_, rfl⟩
 have q1 : ∀ kk, Jf Tryz.prog kk .eql 5 (.int .u8 (k : Int)) (.int .u8 1) = some (.bool B1) := fun kk => by rw [← hB1]; exact JT
 have q3 : ∀ kk, Jf Tryz.prog kk .eql 5 (.int .u8 (k : Int)) (.int .u8 3) = some (.bool B3) := fun kk => by rw [← hB3]; exact JT
 have q2 : ∀ kk, Jf Tryz.prog kk .eql 5 (.int .u8 (k : Int)) (.int .u8 2) = some (.bool false) := fun kk => by rw [← decide_eq_false h2]; exact JT
 have qn : ∀ kk, Jf Tryz.prog kk .leq 3 (.int .i64 (s.n : Int)) (.int .i64 256) = some (.bool N) := fun kk => by rw [← hN]; exact Qc
 rw [hZ] at e0
 rw [hE] at hsm
 rw [hB1, hB3, hN, hZ, hE] at hR
 have z0 : ∀ kk, Jf Tryz.prog kk .eql 3 (.int .i64 0) (.int .i64 0) = some (.bool true) := fun kk => QP
 refine Ks_ (Ka_ (gs := [none, none]) fun K1 gK => ?_)
 simp (disch := omega) [hF, Ja, ho, hb]
 refine gK _ _ (Ks_ (Ks_ (Ka_ (gs := [none, none]) fun K1 gK => ?_)))
 simp (disch := omega) [gN0, l0]
 refine gK _ _ ?_
 refine Kb_ fun K3 gn3 gx3 go3 => ?_
 have gr3 := fun fr st h => go3 AE.ret fr st trivial (gr fr st h)
 refine Ks_ (Ks_ (Ka_ (gs := [none, none]) fun K1 gK => ?_))
 simp (disch := omega) [q1]
 refine gK _ _ ?_
 cases B1 with
 | true =>
  refine Kt_ (by simp (disch := omega) []) ?_
  cases N with
  | true =>
   cases Z with
   | true =>
    refine Kk_ (Kt_ (by simp (disch := omega) []) (Ks_ (Ka_ (gs := [none, none, none, none, none, none, none, none, none, some (some 18, true), some (some 18, true), some (some 18, true), some (some 18, true), none, none, some (some 24, true), some (some 24, true), some (some 24, true), some (some 24, true), none, none, some (some 30, true), some (some 30, true), some (some 30, true), some (some 30, true), some (some 34, false), some (some 34, false), some (some 34, false), some (some 30, true), none, none]) fun K1 gK => ?_)))
    simp (disch := omega) [hF, gN0, gN1, gN2, gN3, l0, l1, l2, l3, ls, hc, e0, q1, qn, Q0, QE, z0]
    refine gK _ _ (Kq_ (gr3 _ _ ?_))
    simp [JM, Tryz.f79, hF]
    refine hR _ _ ?_
    exact ⟨rfl, kq⟩
   | false =>
    refine Kk_ (Kt_ (by simp (disch := omega) []) (Ks_ (Ka_ (gs := [none, none, none, none, none, none, none, none, none, some (some 18, true), some (some 18, true), some (some 18, true), some (some 18, true), none, none, some (some 24, true), some (some 24, true), some (some 24, true), some (some 24, true), none, none, some (some 30, true), some (some 30, true), some (some 30, true), some (some 30, true), some (some 34, false), some (some 34, false), some (some 34, false), some (some 30, true), none, none]) fun K1 gK => ?_)))
    simp (disch := omega) [hF, gN1, gN2, gN3, l1, l2, l3, ls, hc, e0, qn, Q0, QE, z0]
    refine gK _ _ (Kq_ (gr3 _ _ ?_))
    simp [JM, Tryz.f79, hF]
    refine hR _ _ ?_
    exact ⟨rfl, kq⟩
  | false =>
   refine Kk_ (Kt_ (by simp (disch := omega) []) (Ks_ (Ka_ (gs := [none, none, none, none, none, none, none, none, none, some (some 18, true), some (some 18, true), some (some 18, true), some (some 18, true), none, none, some (some 24, true), some (some 24, true), some (some 24, true), some (some 24, true), none, none, some (some 30, true), some (some 30, true), some (some 30, true), some (some 30, true), some (some 34, false), some (some 34, false), some (some 34, false), some (some 30, true), none, none]) fun K1 gK => ?_)))
   simp (disch := omega) [gN1, gN2, gN3, l1, l2, l3, ls, qn, Q0, QE, z0]
   refine gK _ _ (Kq_ (gr3 _ _ ?_))
   simp [JM, Tryz.f79, hF]
   refine hR _ _ ?_
   exact ⟨by cases Z <;> rfl, kq⟩
 | false =>
  refine Kf_ (by simp (disch := omega) []) (Ka_ (gs := [none, none]) fun K1 gK => ?_)
  simp (disch := omega) [q3]
  refine gK _ _ ?_
  cases B3 with
  | true =>
   refine Kt_ (by simp (disch := omega) []) ?_
   cases N with
   | true =>
    cases Z with
    | true =>
     cases E with
     | true =>
      refine Ks_ (Ka_ (gs := [none, none, none, none, none, none, none, none, none, some (some 18, true), some (some 18, true), some (some 18, true), some (some 18, true), none, none, some (some 24, true), some (some 24, true), some (some 24, true), some (some 24, true), none, none, some (some 30, true), some (some 30, true), some (some 30, true), some (some 30, true), some (some 34, false), some (some 34, false), some (some 34, false), some (some 30, true), none, none]) fun K1 gK => ?_)
      simp (disch := omega) [hF, gN0, gN1, gN2, gN3, l0, l1, l2, l3, ls, hc, e0, hsm, q1, qn, Q0, QE, z0]
      refine gK _ _ (Kq_ (gr3 _ _ ?_))
      simp [JM, Tryz.f79, hF]
      refine hR _ _ ?_
      exact ⟨rfl, kq⟩
     | false =>
      refine Ks_ (Ka_ (gs := [none, none, none, none, none, none, none, none, none, some (some 18, true), some (some 18, true), some (some 18, true), some (some 18, true), none, none, some (some 24, true), some (some 24, true), some (some 24, true), some (some 24, true), none, none, some (some 30, true), some (some 30, true), some (some 30, true), some (some 30, true), some (some 34, false), some (some 34, false), some (some 34, false), some (some 30, true), none, none]) fun K1 gK => ?_)
      simp (disch := omega) [hF, gN0, gN1, gN2, gN3, l0, l1, l2, l3, ls, hc, e0, hsm, q1, qn, Q0, QE, z0]
      refine gK _ _ (Kq_ (gr3 _ _ ?_))
      simp [JM, Tryz.f79, hF]
      refine hR _ _ ?_
      exact ⟨rfl, kq⟩
    | false =>
     refine Ks_ (Ka_ (gs := [none, none, none, none, none, none, none, none, none, some (some 18, true), some (some 18, true), some (some 18, true), some (some 18, true), none, none, some (some 24, true), some (some 24, true), some (some 24, true), some (some 24, true), none, none, some (some 30, true), some (some 30, true), some (some 30, true), some (some 30, true), some (some 34, false), some (some 34, false), some (some 34, false), some (some 30, true), none, none]) fun K1 gK => ?_)
     simp (disch := omega) [hF, gN1, gN2, gN3, l1, l2, l3, ls, hc, e0, qn, Q0, QE, z0]
     refine gK _ _ (Kq_ (gr3 _ _ ?_))
     simp [JM, Tryz.f79, hF]
     refine hR _ _ ?_
     exact ⟨rfl, kq⟩
   | false =>
    refine Ks_ (Ka_ (gs := [none, none, none, none, none, none, none, none, none, some (some 18, true), some (some 18, true), some (some 18, true), some (some 18, true), none, none, some (some 24, true), some (some 24, true), some (some 24, true), some (some 24, true), none, none, some (some 30, true), some (some 30, true), some (some 30, true), some (some 30, true), some (some 34, false), some (some 34, false), some (some 34, false), some (some 30, true), none, none]) fun K1 gK => ?_)
    simp (disch := omega) [gN1, gN2, gN3, l1, l2, l3, ls, qn, Q0, QE, z0]
    refine gK _ _ (Kq_ (gr3 _ _ ?_))
    simp [JM, Tryz.f79, hF]
    refine hR _ _ ?_
    exact ⟨by cases Z <;> rfl, kq⟩
  | false =>
   refine Kf_ (by simp (disch := omega) []) (Ks_ (Ka_ (gs := [none, none]) fun K1 gK => ?_))
   simp (disch := omega) [q2]
   refine gK _ _ (Kf_ (by simp (disch := omega) []) (Kk_ (gn3 _ _ (Ks_ (Ka_ (gs := [none]) fun K1 gK => ?_)))))
   simp (disch := omega) []
   refine gK _ _ (Kq_ (gr _ _ ?_))
   simp [JM, Tryz.f79, hF]
   refine hR _ _ ?_
   exact ⟨rfl, kq⟩
end Go.Vm
namespace Go.Vm
open Go Go.Proofs Go.Pa
attribute [local simp] OkG Qf Qs OkD J3 Qe JL Je Jk vop Jq Jx ev evs toV Jj Fr.dsTo Fr.glTo Fr.toNone Jg Jh Ji J7 QI Jc JF Jt V.undef JX JQ Qg J8 J9 Qa Qh Qi JT Qb Qj Qc JR Qk JE Jw Jy JD JG Ju JS JW JK Ql
def Je0 (l : List Fw) (n : Int) : Bool := decide (0 ≤ n) && (decide (n < (l.length : Int)) && match l[n.toNat]? with
 | some f => JcE f
 | none => false)
mutual
def Jae (l : List Fw) : Tw → Bool
 | .mk ref kind text base _ names _ kids =>
  cond (decide (ref = -1))
   (cond (decide (kind = 2)) (decide (text.n = 0) && (decide (names.length = kids.length) && ((decide (base = -1) || Je0 l base) && (Q9 names && JbP l kids))))
    (cond (decide (kind = 0)) (decide (text.n = 0) && (decide (base = -1) && (decide (names.length = 0) && decide (kids.length = 0))))
     (decide (base = -1) && (decide (names.length = 0) && (decide (kids.length = 0) && JfK kind text)))))
   (decide (0 ≤ ref) && (decide (ref < (l.length : Int)) && (decide (base = -1) && (decide (kind = 0) && (decide (text.n = 0) && (decide (names.length = 0) && decide (kids.length = 0)))))))
def JbP (l : List Fw) : List Tw → Bool
 | [] => true
 | t :: r => Jae l t && JbP l r
end
def Joy (l : List Fw) (ts : List Tw) (i : Nat) : Prop := ∀ j (h : j < ts.length), j < i → Jae l ts[j] = true
theorem Jb6 {l : List Fw} : ∀ {ts : List Tw}, JbP l ts = true ↔ ∀ t ∈ ts, Jae l t = true
 | [] => by simp [JbP]
 | t :: r => by
  rw [JbP, Bool.and_eq_true, Jb6 (ts := r)]
  simp
theorem Jlu {l : List Fw} {ts : List Tw} {i : Nat} (h : Joy l ts i) (hi : ts.length ≤ i) : JbP l ts = true := Jb6.2 fun t ht => by
 obtain ⟨j, hj, rfl⟩ := List.getElem_of_mem ht
 exact h j hj (by omega)
theorem Jmi {l : List Fw} {ts : List Tw} {i : Nat} (hi : i < ts.length) (h : Jae l ts[i] = false) : JbP l ts = false := by
 rw [Bool.eq_false_iff]
 intro hc
 rw [Jb6.1 hc _ (List.getElem_mem hi)] at h
 cases h
structure TwBox (st : St) (id : Nat) (t : Tw) : Prop where
 b : st.box.get id = some (.cells t.cells 26 true (some 0))
 lt : id < st.ctr
theorem TwBox.keep {st st' : St} {id : Nat} {s : Tw} (h : TwBox st id s) (k : Keep st st') : TwBox st' id s := ⟨by rw [k.box id h.lt]; exact h.b, Nat.lt_of_lt_of_le h.lt k.ctr⟩
structure TwLd (st : St) (id : Nat) (ref : Int) (kind : Nat) (text : S) (base : Int) (nv kv : V) (cs : List V) : Prop where
 l0 : Jz Tryz.prog st 3 (.ptr id 0) = some (.int .i64 ref)
 l1 : Jz Tryz.prog st 5 (.ptr id 1) = some (.int .u8 (kind : Int))
 l2 : Jz Tryz.prog st 9 (.ptr id 2) = some (.str text)
 l3 : Jz Tryz.prog st 3 (.ptr id 3) = some (.int .i64 base)
 l4 : Jz Tryz.prog st 23 (.ptr id 4) = some nv
 l5 : Jz Tryz.prog st 24 (.ptr id 5) = some kv
 l : Jz Tryz.prog st 26 (.ptr id 0) = some (.agg cs)
theorem TwBox.ld {st : St} {id : Nat} {ref : Int} {kind : Nat} {text : S} {base : Int} {nv kv : V} {names : List S} {kids : List Tw} (h : TwBox st id (.mk ref kind text base nv names kv kids)) : TwLd st id ref kind text base nv kv (Tw.mk ref kind text base nv names kv kids).cells := by
 have hb := h.b
 exact ⟨Jb (off := 0) a3 z3 hb rfl, Jb (off := 1) a5 z5 hb rfl, Jb (off := 2) a9 z9 hb rfl, Jb (off := 3) a3 z3 hb rfl, Jb (off := 4) a23 z23 hb rfl, Jb (off := 5) JpR JpQ hb rfl, JhK hb⟩
theorem TwBox.new {st : St} {s : Tw} : TwBox (Jao st s.cells 26) st.ctr s := ⟨Jdh .., Nat.lt_succ_self _⟩
theorem Jmj {st : St} {l : List Tw} {i : Nat} (h : i < l.length) : Jz Tryz.prog st 26 (.cp (Jed Tw.cells l i)) = some (.agg l[i].cells) := by
 rw [JbS h]; exact Jmo _ _ _
theorem JfL {l : List S} {i : Nat} (h : i < l.length) : l.getD i ⟨0, 0⟩ = l[i] := by rw [List.getD_eq_getElem?_getD, List.getElem?_eq_getElem h]; rfl
variable [Memo] [NY]
set_option maxRecDepth 100000 in
theorem JnQ (gl : Gl) (st : St) (x : V) (l : List Fw) (n : Int) (hx : Row Fw.cells x l) :
  Says Tryz.prog gl 76 [x, .int .i64 n] st (fun v st' => v = .bool (Je0 l n) ∧ Sm st st') := by
 refine QD (NY.no _ rfl rfl rfl _ _) Tryz.func76 rfl (by kernel_rfl) fun R hR K gr gn => ?_
 generalize hfr : JH gl [x, .int .i64 n] = fr
 have hF : Fs gl [(0, x), (1, .int .i64 n)] fr := by subst hfr; simp [Fs]
 simp only [Fs] at hF
 clear hfr
 have lx := hx.len Tryz.underlying22
 have g0 : ∀ kk, Jf Tryz.prog kk .geq 3 (.int .i64 n) (.int .i64 0) = some (.bool (decide (0 ≤ n))) := fun kk => Qr
 have g1 : ∀ kk, Jf Tryz.prog kk .lss 3 (.int .i64 n) (.int .i64 (l.length : Int)) = some (.bool (decide (n < (l.length : Int)))) := fun kk => QF
 simp only [Je0] at hR
 by_cases h0 : 0 ≤ n
 ·
  by_cases h1 : n < (l.length : Int)
  ·
   have hi : n.toNat < l.length := by omega
   have hix := hx.ix (fun f _ => f.len6) Tryz.underlying22 z38 (k := .i64) h0 h1
   have hl := List.getElem?_eq_getElem hi
   have k0 : ∀ st, Jz Tryz.prog st 4 (.cp (Jed Fw.cells l n.toNat)) = some (.bool l[n.toNat].known) := fun st => by rw [JbS hi]; simp only [Jz, QQ, a4, z4]; rfl
   have k1 : ∀ st, Jz Tryz.prog st 5 (.cp (Jed Fw.cells l n.toNat).tail) = some (.int .u8 (l[n.toNat].kind : Int)) := fun st => by rw [JbS hi]; simp only [Jz, QQ, a5, z5]; rfl
   rw [decide_eq_true h0] at hR g0
   rw [decide_eq_true h1, hl] at hR
   rw [decide_eq_true h1] at g1
   simp only [JcE] at hR
   obtain ⟨A, hA⟩ : ∃ b, l[n.toNat].known = b := ⟨_, rfl⟩
   rw [hA] at k0 hR
   cases A with
   | true =>
    refine Ks_ (Ka_ (gs := [none]) fun K1 gK => ?_)
    simp (disch := omega) []
    refine gK _ _ (Ks_ (Ka_ (gs := [none, none, none, some (some 7, true), some (some 7, true), some (some 7, true), some (some 7, true), none, none, some (some 13, true), some (some 13, true), some (some 13, true), some (some 13, true), some (some 13, true), none, none, some (some 20, true), some (some 20, true), some (some 20, true), some (some 20, true), some (some 20, true), some (some 20, true), none, none]) fun K1 gK => ?_))
    simp (disch := omega) [hF, lx, g0, g1, hix, k0, k1, Jb0, Jb1]
    refine gK _ _ (Kq_ (gr _ _ ?_))
    simp [JM, Tryz.f76, hF]
    refine hR _ _ ?_
    exact ⟨rfl, rfl⟩
   | false =>
    refine Ks_ (Ka_ (gs := [none]) fun K1 gK => ?_)
    simp (disch := omega) []
    refine gK _ _ (Ks_ (Ka_ (gs := [none, none, none, some (some 7, true), some (some 7, true), some (some 7, true), some (some 7, true), none, none, some (some 13, true), some (some 13, true), some (some 13, true), some (some 13, true), some (some 13, true), none, none, some (some 20, true), some (some 20, true), some (some 20, true), some (some 20, true), some (some 20, true), some (some 20, true), none, none]) fun K1 gK => ?_))
    simp (disch := omega) [hF, lx, g0, g1, hix, k0, Jb0]
    refine gK _ _ (Kq_ (gr _ _ ?_))
    simp [JM, Tryz.f76, hF]
    refine hR _ _ ?_
    exact ⟨rfl, rfl⟩
  ·
   rw [decide_eq_true h0] at hR g0
   rw [decide_eq_false h1] at hR g1
   refine Ks_ (Ka_ (gs := [none]) fun K1 gK => ?_)
   simp (disch := omega) []
   refine gK _ _ (Ks_ (Ka_ (gs := [none, none, none, some (some 7, true), some (some 7, true), some (some 7, true), some (some 7, true), none, none, some (some 13, true), some (some 13, true), some (some 13, true), some (some 13, true), some (some 13, true), none, none, some (some 20, true), some (some 20, true), some (some 20, true), some (some 20, true), some (some 20, true), some (some 20, true), none, none]) fun K1 gK => ?_))
   simp (disch := omega) [hF, lx, g0, g1]
   refine gK _ _ (Kq_ (gr _ _ ?_))
   simp [JM, Tryz.f76, hF]
   refine hR _ _ ?_
   exact ⟨rfl, rfl⟩
 ·
  rw [decide_eq_false h0] at hR g0
  refine Ks_ (Ka_ (gs := [none]) fun K1 gK => ?_)
  simp (disch := omega) []
  refine gK _ _ (Ks_ (Ka_ (gs := [none, none, none, some (some 7, true), some (some 7, true), some (some 7, true), some (some 7, true), none, none, some (some 13, true), some (some 13, true), some (some 13, true), some (some 13, true), some (some 13, true), none, none, some (some 20, true), some (some 20, true), some (some 20, true), some (some 20, true), some (some 20, true), some (some 20, true), none, none]) fun K1 gK => ?_))
  simp (disch := omega) [hF, g0]
  refine gK _ _ (Kq_ (gr _ _ ?_))
  simp [JM, Tryz.f76, hF]
  refine hR _ _ ?_
  exact ⟨rfl, rfl⟩
def JkL (l : List Fw) (kind : Nat) (text : S) (base : Int) (names : List S) (kids : List Tw) : Bool :=
 cond (decide (kind = 2)) (decide (text.n = 0) && (decide (names.length = kids.length) && ((decide (base = -1) || Je0 l base) && (Q9 names && JbP l kids))))
  (cond (decide (kind = 0)) (decide (text.n = 0) && (decide (base = -1) && (decide (names.length = 0) && decide (kids.length = 0))))
   (decide (base = -1) && (decide (names.length = 0) && (decide (kids.length = 0) && JfK kind text))))
def Jlv [Memo] (gl : Gl) (x : V) (l : List Fw) (t : Tw) : Prop := ∀ st : St, Says Tryz.prog gl 34 [x, .agg t.cells] st fun v st' => v = .bool (Jae l t) ∧ Keep st st'
set_option maxRecDepth 100000 in
theorem Jlw (gl : Gl) (st : St) (x : V) (l : List Fw) (lb : Nat) (t : Tw) (hok : t.ok) (hlb : st.box.get lb = some (.cells [x] 22 true (some 0))) (hlc : lb < st.ctr) (ih : Jlv gl x l t) :
  Says Tryz.prog gl 78 [.agg t.cells, .ptr lb 0] st (fun v st' => v = .bool (!Jae l t) ∧ Keep st st') := by
 refine QD (NY.no _ rfl rfl rfl _ _) Tryz.func78 rfl (by kernel_rfl) fun R hR K gr gn => ?_
 generalize hfr : JH gl [.agg t.cells, .ptr lb 0] = fr
 have hF : Fs gl [(0, .agg t.cells), (1, .ptr lb 0)] fr := by subst hfr; simp [Fs]
 simp only [Fs] at hF
 clear hfr
 have ho := Tw.ones hok
 have kq := Qz st t.cells 26
 have hb := Jaa st t.cells 26
 have hS := TwBox.new (st := st) (s := t)
 generalize Jao st t.cells 26 = q at kq hb hS
 have l1 := JhK hS.b
 have l0 := Jb (P := Tryz.prog) (T := 22) (off := 0) a22 z22 ((kq.box lb hlc).trans hlb) rfl
 obtain ⟨v, s1, hc, rfl, hk1⟩ := Says.use (ih q)
 refine Ks_ (Ka_ (gs := [none, none]) fun K1 gK => ?_)
 simp (disch := omega) [hF, Ja, ho, hb]
 refine gK _ _ (Ks_ (Ka_ (gs := [none, none, none, none, none]) fun K1 gK => ?_))
 simp (disch := omega) [hF, l1, l0, hc]
 refine gK _ _ (Kq_ (gr _ _ ?_))
 simp [JM, Tryz.f78, hF]
 refine hR _ _ ?_
 exact ⟨rfl, kq.trans hk1⟩
set_option maxRecDepth 100000 in
theorem JoO (gl : Gl) (st : St) (x : V) (l : List Fw) (lb : Nat) (kv : V) (kids : List Tw) (hkv : Row Tw.cells kv kids) (hks : ∀ t ∈ kids, t.ok) (hlen : kids.length ≤ 1000000) (hlb : st.box.get lb = some (.cells [x] 22 true (some 0))) (hlc : lb < st.ctr) (ih : ∀ t ∈ kids, Jlv gl x l t) :
  Says Tryz.prog gl 94 [kv, .fn 78 [] [.ptr lb 0]] st (fun v st' => (∃ r : Int, v = .int .i64 r ∧ decide (0 ≤ r) = !JbP l kids) ∧ Keep st st') := by
 refine QD (NY.no _ rfl rfl rfl _ _) Tryz.func94 rfl (by kernel_rfl) fun R hR K gr gn => ?_
 generalize hfr : JH gl [kv, .fn 78 [] [.ptr lb 0]] = fr
 have hF : Fs gl [(0, kv), (1, .fn 78 [] [.ptr lb 0])] fr := by subst hfr; simp [Fs]
 simp only [Fs] at hF
 clear hfr
 have lx := hkv.len Tryz.underlying24
 refine Ks_ (Ka_ (gs := [none]) fun K1 gK => ?_)
 simp (disch := omega) []
 refine gK _ _ (Ks_ (Ks_ (Ka_ (gs := [none, none, none]) fun K1 gK => ?_)))
 simp (disch := omega) [hF, lx]
 refine gK _ _ ?_
 refine Kl_ (kids.length) (fun i fr st' => Fs gl [(0, kv), (1, .fn 78 [] [.ptr lb 0]), (7, .int .i64 (kids.length : Int)), (8, .int .i64 (i : Int))] fr ∧ i ≤ kids.length ∧ Joy l kids i ∧ Keep st st') (0) (fun fr st' => Fs gl [] fr ∧ JbP l kids = true ∧ Keep st st') ?_ ?_ ?_ ?_
 ·exact ⟨by simp [Fs, hF], Nat.zero_le _, fun j _ hj => absurd hj (Nat.not_lt_zero j), .refl _⟩
 ·rintro i fr st' ⟨_, hi, hm, hk⟩
  omega
 ·as_aux_lemma =>
  clear hF
  rintro i fr st' ⟨hF, hi, hm, hk⟩ K1 gk1 gx1 go1
  simp only [Fs] at hF
  have gr1 := fun fr st h => go1 AE.ret fr st trivial (gr fr st h)
  refine Ks_ (Ka_ (gs := [none]) fun K1 gK => ?_)
  simp (disch := omega) [hF]
  refine gK _ _ (Ks_ ?_)
  by_cases hlt : i < kids.length
  ·
   refine Kt_ (by simp (disch := omega) [hlt]) ?_
   have hix := hkv.ix (fun t _ => t.len6) Tryz.underlying24 JhJ (k := .i64) (a := (i : Int)) (by omega) (by omega)
   have hld := fun st => Jmj (st := st) hlt
   obtain ⟨v, s1, hc, rfl, hk1⟩ := Says.use (Jlw gl st' x l lb kids[i] (hks _ (List.getElem_mem hlt)) ((hk.box lb hlc).trans hlb) (Nat.lt_of_lt_of_le hlc hk.ctr) (ih _ (List.getElem_mem hlt)))
   obtain ⟨M, hM⟩ : ∃ b, Jae l kids[i] = b := ⟨_, rfl⟩
   rw [hM] at hc
   refine Kk_ (Ks_ ?_)
   refine Kb_ fun K2 gn2 gx2 go2 => ?_
   have gr2 := fun fr st h => go2 AE.ret fr st trivial (gr1 fr st h)
   refine Ks_ (Ka_ (gs := [none, none]) fun K1 gK => ?_)
   simp (disch := omega) [hF, hlt]
   refine gK _ _ (Ks_ (Ka_ (gs := [none, none, none, none, none, none]) fun K1 gK => ?_))
   simp (disch := omega) [hF, hix, hld, hc]
   refine gK _ _ ?_
   cases M with
   | true =>
    refine Kf_ (by simp (disch := omega) []) (Kk_ (gn2 _ _ (Ka_ (gs := [none, none]) fun K1 gK => ?_)))
    simp (disch := omega) [hF]
    refine gK _ _ ?_
    refine gk1 (i + 1) _ _ (by omega) ⟨by simp [Fs, hF], by omega, fun j hj hji => by by_cases he : j = i; exact he ▸ hM; exact hm j hj (by omega), hk.trans hk1⟩
   | false =>
    refine Kt_ (by simp (disch := omega) []) (Ks_ (Ka_ (gs := [none, none]) fun K1 gK => ?_))
    simp (disch := omega) []
    refine gK _ _ (Kq_ (gr2 _ _ ?_))
    simp [JM, Tryz.f94, hF]
    refine hR _ _ ?_
    exact ⟨⟨_, rfl, by rw [Jmi hlt hM, decide_eq_true (by omega)]; rfl⟩, hk.trans hk1⟩
  ·
   refine Kf_ (by simp (disch := omega) [hlt]) ?_
   exact Kx_ (gx1 _ _ ⟨by simp [Fs, hF, hlt], Jlu hm (by omega), hk⟩)
 ·as_aux_lemma =>
  clear hF
  rintro fr st' ⟨hF, hm, hk⟩
  simp only [Fs] at hF
  refine Ks_ (Ka_ (gs := [none]) fun K1 gK => ?_)
  simp (disch := omega) []
  refine gK _ _ (Kq_ (gr _ _ ?_))
  simp [JM, Tryz.f94, hF]
  refine hR _ _ ?_
  exact ⟨⟨_, rfl, by rw [hm]; rfl⟩, hk⟩
set_option maxRecDepth 100000 in
theorem JoP (gl : Gl) (st : St) (x : V) (l : List Fw) (lb : Nat) (kv : V) (kids : List Tw) (hkv : Row Tw.cells kv kids) (hks : ∀ t ∈ kids, t.ok) (hlen : kids.length ≤ 1000000) (hlb : st.box.get lb = some (.cells [x] 22 true (some 0))) (hlc : lb < st.ctr) (ih : ∀ t ∈ kids, Jlv gl x l t) :
  Says Tryz.prog gl 77 [kv, .fn 78 [] [.ptr lb 0]] st (fun v st' => v = .bool (!JbP l kids) ∧ Keep st st') := by
 refine QD (NY.no _ rfl rfl rfl _ _) Tryz.func77 rfl (by kernel_rfl) fun R hR K gr gn => ?_
 generalize hfr : JH gl [kv, .fn 78 [] [.ptr lb 0]] = fr
 have hF : Fs gl [(0, kv), (1, .fn 78 [] [.ptr lb 0])] fr := by subst hfr; simp [Fs]
 simp only [Fs] at hF
 clear hfr
 obtain ⟨v, s1, hc, ⟨r, rfl, hr⟩, hk1⟩ := Says.use (JoO gl st x l lb kv kids hkv hks hlen hlb hlc ih)
 have e0 : ∀ kk, Jf Tryz.prog kk .geq 3 (.int .i64 r) (.int .i64 0) = some (.bool (!JbP l kids)) := fun kk => by rw [← hr]; exact Qr
 refine Ks_ (Ka_ (gs := [none]) fun K1 gK => ?_)
 simp (disch := omega) []
 refine gK _ _ (Ks_ (Ka_ (gs := [none, none, none, none, none]) fun K1 gK => ?_))
 simp (disch := omega) [hF, hc, e0]
 refine gK _ _ (Kq_ (gr _ _ ?_))
 simp [JM, Tryz.f77, hF]
 refine hR _ _ ?_
 exact ⟨rfl, hk1⟩
end Go.Vm
namespace Go.Vm
open Go Go.Proofs Go.Pa
attribute [local simp] OkG Qf Qs OkD J3 Qe JL Je Jk vop Jq Jx ev evs toV Jj Fr.dsTo Fr.glTo Fr.toNone Jg Jh Ji J7 QI Jc JF Jt V.undef JX JQ Qg J8 J9 Qa Qh Qi JT Qb Qj Qc JR Qk JE Jw Jy JD JG Ju JS JW JK Ql
theorem JoQ {l : List S} {i : Nat} (h : i < l.length) : JbW l i = (!JbM l[i] || (decide (0 < i) && leS l[i] (l.getD (i - 1) ⟨0, 0⟩))) := by unfold JbW; rw [JfL h]
theorem JcP (k : Nat) (s : S) : JdT Tryz.prog 92 [(0, .int .u8 (k : Int)), (1, .str s)] = some (.agg (Jd0 k s)) := by kernel_rfl
variable [Memo] [NY]
set_option maxHeartbeats 8000000 in
set_option maxRecDepth 100000 in
theorem JnR (gl : Gl) {aL : List V} (hh : Hits gl aL) (st : St) (x : V) (l : List Fw) (hx : Row Fw.cells x l) (ref : Int) (kind : Nat) (text : S) (base : Int) (nv : V) (names : List S) (kv : V) (kids : List Tw) (hk : kind < 256) (hn : Row sC nv names) (hkv : Row Tw.cells kv kids) (hks : ∀ t ∈ kids, t.ok) (hnl : names.length ≤ 1000000) (hkl : kids.length ≤ 1000000) (ih : ∀ t ∈ kids, Jlv gl x l t) :
  Says Tryz.prog gl 58 [x, .agg (Tw.mk ref kind text base nv names kv kids).cells] st (fun v st' => v = .bool (JkL l kind text base names kids) ∧ Keep st st') := by
 refine QD (NY.no _ rfl rfl rfl _ _) Tryz.func58 rfl (by kernel_rfl) fun R hR K gr gn => ?_
 generalize hfr : JH gl [x, .agg (Tw.mk ref kind text base nv names kv kids).cells] = fr
 have hF : Fs gl [(0, x), (1, .agg (Tw.mk ref kind text base nv names kv kids).cells)] fr := by subst hfr; simp [Fs]
 simp only [Fs] at hF
 clear hfr
 have ho := Tw.ones (Tw.ok.mk ref kind text base nv names kv kids hk hn hkv hks)
 have hx1 := hx.cells1
 have hxo := hx.one
 obtain ⟨q, hq⟩ : ∃ q, q = Jao (Jao st [x] 22) (Tw.mk ref kind text base nv names kv kids).cells 26 := ⟨_, rfl⟩
 have kq : Keep st q := by rw [hq]; exact (Qz ..).trans (Qz ..)
 have cq : q.ctr = st.ctr + 2 := by rw [hq]; rfl
 have hb : ({ ctr := st.ctr + 1 + 1, box := (st.box.put st.ctr (.cells [x] 22 true (some 0))).put (st.ctr + 1) (.cells (Tw.mk ref kind text base nv names kv kids).cells 26 true (some 0)) } : St) = q := by rw [hq]; rfl
 have hT : TwBox q (st.ctr + 1) (Tw.mk ref kind text base nv names kv kids) := by rw [hq]; exact ⟨Jdh .., Nat.lt_succ_self _⟩
 have bl : q.box.get st.ctr = some (.cells [x] 22 true (some 0)) := by rw [hq]; unfold Jao; rw [Js, if_neg (by rw [JY]; omega), Js, if_pos rfl]
 clear hq
 have ll := Jb (P := Tryz.prog) (T := 22) (off := 0) a22 z22 bl rfl
 obtain ⟨l0, l1, l2, l3, l4, l5, _⟩ := hT.ld
 have ln := hn.len Tryz.underlying23
 have lk := hkv.len Tryz.underlying24
 have hsm := Q4 text
 obtain ⟨v, s1, hcd, rfl, hsd⟩ := Says.use (JnQ gl q x l base hx)
 rw [show s1 = q from hsd] at hcd
 clear hsd
 simp only [JkL] at hR
 obtain ⟨E, hE⟩ : ∃ b, decide (text.n = 0) = b := ⟨_, rfl⟩
 obtain ⟨L, hL⟩ : ∃ b, decide (names.length = kids.length) = b := ⟨_, rfl⟩
 obtain ⟨B, hB⟩ : ∃ b, decide (base = -1) = b := ⟨_, rfl⟩
 obtain ⟨D, hD⟩ : ∃ b, Je0 l base = b := ⟨_, rfl⟩
 obtain ⟨N0, hN0⟩ : ∃ b, decide (names.length = 0) = b := ⟨_, rfl⟩
 obtain ⟨J0, hJ0⟩ : ∃ b, decide (kids.length = 0) = b := ⟨_, rfl⟩
 obtain ⟨Z0, hZ0⟩ : ∃ b, decide (kind = 0) = b := ⟨_, rfl⟩
 obtain ⟨Z2, hZ2⟩ : ∃ b, decide (kind = 2) = b := ⟨_, rfl⟩
 have e0 : ∀ kk, Jf Tryz.prog kk .eql 5 (.int .u8 (kind : Int)) (.int .u8 0) = some (.bool Z0) := fun kk => by rw [← hZ0]; exact JT
 have e2 : ∀ kk, Jf Tryz.prog kk .eql 5 (.int .u8 (kind : Int)) (.int .u8 2) = some (.bool Z2) := fun kk => by rw [← hZ2]; exact JT
 have eb : ∀ kk, Jf Tryz.prog kk .eql 3 (.int .i64 base) (.int .i64 (-1)) = some (.bool B) := fun kk => by rw [← hB]; exact QP
 have eb' : ∀ kk, Jf Tryz.prog kk .neq 3 (.int .i64 base) (.int .i64 (-1)) = some (.bool (!B)) := fun kk => by rw [← hB]; exact JcV
 have en : ∀ kk, Jf Tryz.prog kk .eql 3 (.int .i64 (names.length : Int)) (.int .i64 0) = some (.bool N0) := fun kk => by rw [← hN0]; exact JT
 have ej : ∀ kk, Jf Tryz.prog kk .eql 3 (.int .i64 (kids.length : Int)) (.int .i64 0) = some (.bool J0) := fun kk => by rw [← hJ0]; exact JT
 have el : ∀ kk, Jf Tryz.prog kk .neq 3 (.int .i64 (names.length : Int)) (.int .i64 (kids.length : Int)) = some (.bool (!L)) := fun kk => by rw [← hL]; exact J8
 rw [hE] at hsm
 rw [hD] at hcd
 rw [hE, hL, hB, hD, hN0, hJ0, hZ0, hZ2] at hR
 refine Ks_ (Ka_ (gs := [none, none, none]) fun K1 gK => ?_)
 simp (disch := omega) [hF, Ja, hx1, hxo, ho, hb]
 refine gK _ _ (Ks_ (Ks_ (Ka_ (gs := [none, none]) fun K1 gK => ?_)))
 simp (disch := omega) [gT1, l1]
 refine gK _ _ ?_
 refine Kb_ fun K1 gn1 gx1 go1 => ?_
 have gr1 := fun fr st h => go1 AE.ret fr st trivial (gr fr st h)
 refine Ks_ (Ka_ (gs := [none, none]) fun K1 gK => ?_)
 simp (disch := omega) [e0]
 refine gK _ _ ?_
 cases Z0 with
 | true =>
  refine Kt_ (by simp (disch := omega) []) ?_
  have hz2 : Z2 = false := by
   rw [← hZ2]
   have : kind = 0 := of_decide_eq_true hZ0
   exact decide_eq_false (by omega)
  subst hz2
  cases E with
  | true =>
   cases B with
   | true =>
    cases N0 with
    | true =>
     refine Ks_ (Ka_ (gs := [none, none, none, none, some (some 14, true), some (some 14, true), some (some 14, true), none, none, some (some 19, true), some (some 19, true), some (some 19, true), some (some 19, true), none, none, some (some 25, true), some (some 25, true), some (some 25, true), some (some 25, true), none, none]) fun K1 gK => ?_)
     simp (disch := omega) [gT2, gT3, gT4, gT5, l2, l3, l4, l5, ln, lk, hsm, eb, en, ej]
     refine gK _ _ (Kq_ (gr1 _ _ ?_))
     simp [JM, Tryz.f58, hF]
     refine hR _ _ ?_
     exact ⟨rfl, kq⟩
    | false =>
     refine Ks_ (Ka_ (gs := [none, none, none, none, some (some 14, true), some (some 14, true), some (some 14, true), none, none, some (some 19, true), some (some 19, true), some (some 19, true), some (some 19, true), none, none, some (some 25, true), some (some 25, true), some (some 25, true), some (some 25, true), none, none]) fun K1 gK => ?_)
     simp (disch := omega) [gT2, gT3, gT4, l2, l3, l4, ln, hsm, eb, en]
     refine gK _ _ (Kq_ (gr1 _ _ ?_))
     simp [JM, Tryz.f58, hF]
     refine hR _ _ ?_
     exact ⟨rfl, kq⟩
   | false =>
    refine Ks_ (Ka_ (gs := [none, none, none, none, some (some 14, true), some (some 14, true), some (some 14, true), none, none, some (some 19, true), some (some 19, true), some (some 19, true), some (some 19, true), none, none, some (some 25, true), some (some 25, true), some (some 25, true), some (some 25, true), none, none]) fun K1 gK => ?_)
    simp (disch := omega) [gT2, gT3, l2, l3, hsm, eb]
    refine gK _ _ (Kq_ (gr1 _ _ ?_))
    simp [JM, Tryz.f58, hF]
    refine hR _ _ ?_
    exact ⟨rfl, kq⟩
  | false =>
   refine Ks_ (Ka_ (gs := [none, none, none, none, some (some 14, true), some (some 14, true), some (some 14, true), none, none, some (some 19, true), some (some 19, true), some (some 19, true), some (some 19, true), none, none, some (some 25, true), some (some 25, true), some (some 25, true), some (some 25, true), none, none]) fun K1 gK => ?_)
   simp (disch := omega) [gT2, l2, hsm]
   refine gK _ _ (Kq_ (gr1 _ _ ?_))
   simp [JM, Tryz.f58, hF]
   refine hR _ _ ?_
   exact ⟨rfl, kq⟩
 | false =>
  refine Kf_ (by simp (disch := omega) []) (Ks_ (Ka_ (gs := [none, none]) fun K1 gK => ?_))
  simp (disch := omega) [e2]
  refine gK _ _ ?_
  cases Z2 with
  | true =>
   refine Kt_ (by simp (disch := omega) []) (Ks_ (Ks_ (Ka_ (gs := [none, none, none, none, some (some 36, false), some (some 36, false), some (some 36, false), some (some 36, false), some (some 36, false), some (some 36, false), some (some 36, false), none, none, some (some 45, false), some (some 45, false), some (some 45, false), some (some 45, false), some (some 49, true), some (some 49, true), some (some 49, true), some (some 49, true), some (some 49, true), some (some 45, false), none]) fun K1 gK => ?_)))
   refine OkG.cutK 12 (fun fr st' => Fs gl [(2, .ptr st.ctr 0), (3, .ptr (st.ctr + 1) 0), (44, .bool (!(E && L)))] fr ∧ q = st') (by kernel_rfl) ?_ ?_
   ·as_aux_lemma =>
    intro Kc gKc
    simp only [List.take]
    cases E with
    | true =>
     simp (disch := omega) [gT2, gT4, gT5, l2, l4, l5, ln, lk, hsm, el]
     exact gKc _ _ ⟨by simp [Fs, hF], rfl⟩
    | false =>
     simp (disch := omega) [gT2, l2, hsm]
     exact gKc _ _ ⟨by simp [Fs, hF], rfl⟩
   ·as_aux_lemma =>
    clear hF
    rintro fr st' ⟨hF, rfl⟩
    simp only [Fs] at hF
    simp only [List.drop]
    obtain ⟨B1, hB1⟩ : ∃ b, (E && L) = b := ⟨_, rfl⟩
    rw [hB1] at hF
    refine OkG.cutK 12 (fun fr st' => Fs gl [(2, .ptr st.ctr 0), (3, .ptr (st.ctr + 1) 0), (56, .bool (!(B1 && (B || D))))] fr ∧ q = st') (by kernel_rfl) ?_ ?_
    ·as_aux_lemma =>
     intro Kc gKc
     simp only [List.take]
     cases B1 with
     | true =>
      cases B with
      | true =>
       simp (disch := omega) [hF, gT3, l3, eb']
       exact gKc _ _ ⟨by simp [Fs, hF], rfl⟩
      | false =>
       cases D with
       | true =>
        simp (disch := omega) [hF, gT3, l3, hcd, eb', ll]
        exact gKc _ _ ⟨by simp [Fs, hF], rfl⟩
       | false =>
        simp (disch := omega) [hF, gT3, l3, hcd, eb', ll]
        exact gKc _ _ ⟨by simp [Fs, hF], rfl⟩
     | false =>
      simp (disch := omega) [hF]
      exact gKc _ _ ⟨by simp [Fs, hF], rfl⟩
    ·as_aux_lemma =>
     clear hF
     rintro fr st' ⟨hF, rfl⟩
     simp only [Fs] at hF
     simp only [List.drop]
     obtain ⟨B2, hB2⟩ : ∃ b, (B1 && (B || D)) = b := ⟨_, rfl⟩
     rw [hB2] at hF
     simp (disch := omega) []
     refine gK _ _ ?_
     have hz0 : (E && (L && ((B || D) && (Q9 names && JbP l kids)))) = (B2 && (Q9 names && JbP l kids)) := by rw [← hB2, ← hB1]; cases E <;> cases L <;> rfl
     simp only [cond_true, hz0] at hR
     cases B2 with
     | true =>
      refine Kf_ (by simp (disch := omega) [hF]) (Kk_ (Ks_ (Ks_ (Ka_ (gs := [none, none, none, none]) fun K1 gK => ?_))))
      simp (disch := omega) [hF, gT4, l4, ln]
      refine gK _ _ ?_
      refine Kl_ (names.length) (fun i fr st' => Fs gl [(2, .ptr st.ctr 0), (3, .ptr (st.ctr + 1) 0), (58, nv), (59, .int .i64 (names.length : Int)), (60, .int .i64 (i : Int))] fr ∧ i ≤ names.length ∧ Jep names i ∧ Keep q st') (0) (fun fr st' => Fs gl [(2, .ptr st.ctr 0), (3, .ptr (st.ctr + 1) 0)] fr ∧ Q9 names = true ∧ Keep q st') ?_ ?_ ?_ ?_
      ·exact ⟨by simp [Fs, hF], Nat.zero_le _, fun j hj => absurd hj (Nat.not_lt_zero j), .refl _⟩
      ·rintro i fr st' ⟨_, hi, hN, hkq⟩
       omega
      ·as_aux_lemma =>
       clear hF
       rintro i fr st' ⟨hF, hi, hN, hkq⟩ K2 gk2 gx2 go2
       simp only [Fs] at hF
       have gr2 := fun fr st h => go2 AE.ret fr st trivial (gr1 fr st h)
       refine Ks_ (Ka_ (gs := [none]) fun K1 gK => ?_)
       simp (disch := omega) [hF]
       refine gK _ _ (Ks_ ?_)
       by_cases hlt : i < names.length
       ·
        refine Kt_ (by simp (disch := omega) [hlt]) ?_
        have hns : ∀ {k : IntKind} {a : Int}, 0 ≤ a → a < (names.length : Int) → Jd Tryz.prog 23 nv (.int k a) = some (adr 1 nv a.toNat) := fun h0 h1 => (hn.vw st).ix Tryz.underlying23 z9 h0 h1
        have hxi := hns (k := .i64) (a := (i : Int)) (by omega) (by omega)
        have hnd := fun st => (hn.vw st).ld z9 a9 hlt
        obtain ⟨v, s2, hcn, rfl, hk2⟩ := Jnz gl hh st' names[i]
        have hcn := Jp (P := Tryz.prog) (ih := ihCall (W Tryz.prog)) (gl := gl) (args := [.str names[i]]) (st := st') (show JN Tryz.prog 74 = true by kernel_rfl) ▸ J1 hcn
        have hT2 := (hT.keep hkq).keep hk2
        have m4 := hT2.ld.l4
        have hbd := JoQ hlt
        have e3 : ∀ kk, Jf Tryz.prog kk .gtr 3 (.int .i64 (i : Int)) (.int .i64 0) = some (.bool (decide (0 < i))) := fun kk => JR
        have hpr : decide (0 < i) = true → Jd Tryz.prog 23 nv (.int .i64 ((i : Int) - 1)) = some (adr 1 nv (i - 1)) ∧ ∀ st, Jz Tryz.prog st 9 (adr 1 nv (i - 1)) = some (.str (names.getD (i - 1) ⟨0, 0⟩)) := fun h => by
         have h0 : 0 < i := of_decide_eq_true h
         have h1 := hns (k := .i64) (a := (i : Int) - 1) (by omega) (by omega)
         rw [show ((i : Int) - 1).toNat = i - 1 by omega] at h1
         refine ⟨h1, fun st => ?_⟩
         have := (hn.vw st).ld z9 a9 (i := i - 1) (by omega)
         rw [this, JfL (by omega)]
        obtain ⟨P, hP⟩ : ∃ b, JbM names[i] = b := ⟨_, rfl⟩
        obtain ⟨D0, hD0⟩ : ∃ b, decide (0 < i) = b := ⟨_, rfl⟩
        obtain ⟨Q, hQ⟩ : ∃ b, leS names[i] (names.getD (i - 1) ⟨0, 0⟩) = b := ⟨_, rfl⟩
        have eq' : ∀ kk, Jf Tryz.prog kk .leq 9 (.str names[i]) (.str (names.getD (i - 1) ⟨0, 0⟩)) = some (.bool Q) := fun kk => by rw [← hQ]; rfl
        rw [hP] at hcn
        rw [hD0] at e3 hpr
        rw [hP, hD0, hQ] at hbd
        refine Kk_ (Ks_ ?_)
        refine Kb_ fun K3 gn3 gx3 go3 => ?_
        have gr3 := fun fr st h => go3 AE.ret fr st trivial (gr2 fr st h)
        refine Ks_ (Ka_ (gs := [none, none, none, none, none]) fun K1 gK => ?_)
        simp (disch := omega) [hF, hlt, hxi, hnd]
        refine gK _ _ (Ks_ (Ka_ (gs := [none, none, none, none, some (some 68, false), some (some 68, false), some (some 68, false), some (some 71, true), some (some 71, true), some (some 71, true), some (some 71, true), some (some 71, true), some (some 71, true), some (some 71, true), some (some 71, true), some (some 68, false), none]) fun K1 gK => ?_))
        refine OkG.cutK 17 (fun fr st' => Fs gl [(2, .ptr st.ctr 0), (3, .ptr (st.ctr + 1) 0), (58, nv), (59, .int .i64 (names.length : Int)), (60, .int .i64 (i : Int)), (81, .bool (!P || (D0 && Q)))] fr ∧ Keep q st') (by kernel_rfl) ?_ ?_
        ·as_aux_lemma =>
         intro Kc gKc
         simp only [List.take]
         cases P with
         | true =>
          cases D0 with
          | true =>
           have hpi := (hpr rfl).1
           have hpl := (hpr rfl).2
           have hq2 : (names[i].less (names[i - 1]'(by omega)) || names[i].same (names[i - 1]'(by omega))) = Q := by rw [← hQ, JfL (show i - 1 < names.length by omega)]; rfl
           simp (disch := omega) [hF, gT4, hcn, m4, e3, hpi, hpl]
           exact gKc _ _ ⟨by simp [Fs, hF, hq2], hkq.trans hk2⟩
          | false =>
           simp (disch := omega) [hF, hcn, e3]
           exact gKc _ _ ⟨by simp [Fs, hF], hkq.trans hk2⟩
         | false =>
          simp (disch := omega) [hF, hcn]
          exact gKc _ _ ⟨by simp [Fs, hF], hkq.trans hk2⟩
        ·as_aux_lemma =>
         clear hF
         rintro fr st' ⟨hF, hkq2⟩
         simp only [Fs] at hF
         simp only [List.drop]
         rw [← hbd] at hF
         obtain ⟨B3, hB3⟩ : ∃ b, JbW names i = b := ⟨_, rfl⟩
         rw [hB3] at hF
         simp (disch := omega) []
         refine gK _ _ ?_
         cases B3 with
         | true =>
          refine Kt_ (by simp (disch := omega) [hF]) (Ks_ (Ka_ (gs := [none]) fun K1 gK => ?_))
          simp (disch := omega) []
          refine gK _ _ (Kq_ (gr3 _ _ ?_))
          simp [JM, Tryz.f58, hF]
          refine hR _ _ ?_
          exact ⟨by rw [Jjq hlt hB3]; rfl, kq.trans hkq2⟩
         | false =>
          refine Kf_ (by simp (disch := omega) [hF]) (Kk_ (gn3 _ _ (Ka_ (gs := [none, none]) fun K1 gK => ?_)))
          simp (disch := omega) [hF]
          refine gK _ _ ?_
          refine gk2 (i + 1) _ _ (by omega) ⟨by simp [Fs, hF], by omega, JgD hN hB3, hkq2⟩
       ·
        refine Kf_ (by simp (disch := omega) [hlt]) ?_
        exact Kx_ (gx2 _ _ ⟨by simp [Fs, hF, hlt], Jhz hN (by omega), hkq⟩)
      ·as_aux_lemma =>
       clear hF
       rintro fr st' ⟨hF, hN, hkq⟩
       simp only [Fs] at hF
       have hT2 := hT.keep hkq
       have m5 := hT2.ld.l5
       obtain ⟨v, s3, hch, rfl, hk3⟩ := Says.use (JoP gl st' x l st.ctr kv kids hkv hks hkl (by rw [hkq.box _ (by omega)]; exact bl) (by have := hkq.ctr; omega) ih)
       refine Ks_ (Ka_ (gs := [none, none, none, none, none, none]) fun K1 gK => ?_)
       simp (disch := omega) [hF, gT5, m5, hch]
       refine gK _ _ (Kq_ (gr1 _ _ ?_))
       simp [JM, Tryz.f58, hF]
       refine hR _ _ ?_
       exact ⟨by rw [hN]; simp, kq.trans (hkq.trans hk3)⟩
     | false =>
      refine Kt_ (by simp (disch := omega) [hF]) (Ks_ (Ka_ (gs := [none]) fun K1 gK => ?_))
      simp (disch := omega) []
      refine gK _ _ (Kq_ (gr1 _ _ ?_))
      simp [JM, Tryz.f58, hF]
      refine hR _ _ ?_
      exact ⟨rfl, kq⟩
  | false =>
   refine Kf_ (by simp (disch := omega) []) ?_
   have hkd : kind ≠ 2 := fun h => by rw [h] at hZ2; simp at hZ2
   obtain ⟨v, s2, hcw, rfl, hkw⟩ := Says.use (Jpr gl q kind hk hkd text)
   cases B with
   | true =>
    cases N0 with
    | true =>
     cases J0 with
     | true =>
      refine Kk_ (gn1 _ _ (Ks_ (Ka_ (gs := [none, none, none, none, some (some 91, true), some (some 91, true), some (some 91, true), some (some 91, true), none, none, some (some 97, true), some (some 97, true), some (some 97, true), some (some 97, true), none, none, some (some 103, true), some (some 103, true), some (some 103, true), some (some 103, true), some (some 103, true), some (some 103, true), none, none]) fun K1 gK => ?_)))
      simp (disch := omega) [hF, gT1, gT2, gT3, gT4, gT5, l1, l2, l3, l4, l5, ln, lk, eb, en, ej, hcw, JcP, J2]
      refine gK _ _ (Kq_ (gr _ _ ?_))
      simp [JM, Tryz.f58, hF]
      refine hR _ _ ?_
      exact ⟨rfl, kq.trans hkw⟩
     | false =>
      refine Kk_ (gn1 _ _ (Ks_ (Ka_ (gs := [none, none, none, none, some (some 91, true), some (some 91, true), some (some 91, true), some (some 91, true), none, none, some (some 97, true), some (some 97, true), some (some 97, true), some (some 97, true), none, none, some (some 103, true), some (some 103, true), some (some 103, true), some (some 103, true), some (some 103, true), some (some 103, true), none, none]) fun K1 gK => ?_)))
      simp (disch := omega) [gT3, gT4, gT5, l3, l4, l5, ln, lk, eb, en, ej]
      refine gK _ _ (Kq_ (gr _ _ ?_))
      simp [JM, Tryz.f58, hF]
      refine hR _ _ ?_
      exact ⟨rfl, kq⟩
    | false =>
     refine Kk_ (gn1 _ _ (Ks_ (Ka_ (gs := [none, none, none, none, some (some 91, true), some (some 91, true), some (some 91, true), some (some 91, true), none, none, some (some 97, true), some (some 97, true), some (some 97, true), some (some 97, true), none, none, some (some 103, true), some (some 103, true), some (some 103, true), some (some 103, true), some (some 103, true), some (some 103, true), none, none]) fun K1 gK => ?_)))
     simp (disch := omega) [gT3, gT4, l3, l4, ln, eb, en]
     refine gK _ _ (Kq_ (gr _ _ ?_))
     simp [JM, Tryz.f58, hF]
     refine hR _ _ ?_
     exact ⟨rfl, kq⟩
   | false =>
    refine Kk_ (gn1 _ _ (Ks_ (Ka_ (gs := [none, none, none, none, some (some 91, true), some (some 91, true), some (some 91, true), some (some 91, true), none, none, some (some 97, true), some (some 97, true), some (some 97, true), some (some 97, true), none, none, some (some 103, true), some (some 103, true), some (some 103, true), some (some 103, true), some (some 103, true), some (some 103, true), none, none]) fun K1 gK => ?_)))
    simp (disch := omega) [gT3, l3, eb]
    refine gK _ _ (Kq_ (gr _ _ ?_))
    simp [JM, Tryz.f58, hF]
    refine hR _ _ ?_
    exact ⟨rfl, kq⟩
end Go.Vm
namespace Go.Vm
open Go Go.Proofs Go.Pa
attribute [local simp] OkG Qf Qs OkD J3 Qe JL Je Jk vop Jq Jx ev evs toV Jj Fr.dsTo Fr.glTo Fr.toNone Jg Jh Ji J7 QI Jc JF Jt V.undef JX JQ Qg J8 J9 Qa Qh Qi JT Qb Qj Qc JR Qk JE Jw Jy JD JG Ju JS JW JK Ql
variable [Memo] [NY]
set_option maxHeartbeats 4000000 in
set_option maxRecDepth 100000 in
theorem Jmk (gl : Gl) {aL : List V} (hh : Hits gl aL) (st : St) (x : V) (l : List Fw) (hx : Row Fw.cells x l) (ref : Int) (kind : Nat) (text : S) (base : Int) (nv : V) (names : List S) (kv : V) (kids : List Tw) (hk : kind < 256) (hn : Row sC nv names) (hkv : Row Tw.cells kv kids) (hks : ∀ t ∈ kids, t.ok) (hnl : names.length ≤ 1000000) (hkl : kids.length ≤ 1000000) (ih : ∀ t ∈ kids, Jlv gl x l t) :
  Says Tryz.prog gl 34 [x, .agg (Tw.mk ref kind text base nv names kv kids).cells] st (fun v st' => v = .bool (Jae l (Tw.mk ref kind text base nv names kv kids)) ∧ Keep st st') := by
 refine QD (NY.no _ rfl rfl rfl _ _) Tryz.func34 rfl (by kernel_rfl) fun R hR K gr gn => ?_
 generalize hfr : JH gl [x, .agg (Tw.mk ref kind text base nv names kv kids).cells] = fr
 have hF : Fs gl [(0, x), (1, .agg (Tw.mk ref kind text base nv names kv kids).cells)] fr := by subst hfr; simp [Fs]
 simp only [Fs] at hF
 clear hfr
 have ho := Tw.ones (Tw.ok.mk ref kind text base nv names kv kids hk hn hkv hks)
 have kq := Qz st (Tw.mk ref kind text base nv names kv kids).cells 26
 have hb := Jaa st (Tw.mk ref kind text base nv names kv kids).cells 26
 have hT := TwBox.new (st := st) (s := Tw.mk ref kind text base nv names kv kids)
 generalize Jao st (Tw.mk ref kind text base nv names kv kids).cells 26 = q at kq hb hT
 obtain ⟨l0, l1, l2, l3, l4, l5, lt⟩ := hT.ld
 have lx := hx.len Tryz.underlying22
 have ln := hn.len Tryz.underlying23
 have lk := hkv.len Tryz.underlying24
 have hsm := Q4 text
 obtain ⟨v, s1, hcm, rfl, hkm⟩ := Says.use (JnR gl hh q x l hx ref kind text base nv names kv kids hk hn hkv hks hnl hkl ih)
 have hmy : Jae l (Tw.mk ref kind text base nv names kv kids) = cond (decide (ref = -1)) (JkL l kind text base names kids) (decide (0 ≤ ref) && (decide (ref < (l.length : Int)) && (decide (base = -1) && (decide (kind = 0) && (decide (text.n = 0) && (decide (names.length = 0) && decide (kids.length = 0))))))) := rfl
 obtain ⟨M, hM⟩ : ∃ b, JkL l kind text base names kids = b := ⟨_, rfl⟩
 obtain ⟨R0, hR0⟩ : ∃ b, decide (ref = -1) = b := ⟨_, rfl⟩
 obtain ⟨A, hA⟩ : ∃ b, decide (0 ≤ ref) = b := ⟨_, rfl⟩
 obtain ⟨C, hC⟩ : ∃ b, decide (ref < (l.length : Int)) = b := ⟨_, rfl⟩
 obtain ⟨E, hE⟩ : ∃ b, decide (text.n = 0) = b := ⟨_, rfl⟩
 obtain ⟨B, hB⟩ : ∃ b, decide (base = -1) = b := ⟨_, rfl⟩
 obtain ⟨N0, hN0⟩ : ∃ b, decide (names.length = 0) = b := ⟨_, rfl⟩
 obtain ⟨J0, hJ0⟩ : ∃ b, decide (kids.length = 0) = b := ⟨_, rfl⟩
 obtain ⟨Z0, hZ0⟩ : ∃ b, decide (kind = 0) = b := ⟨_, rfl⟩
 have er : ∀ kk, Jf Tryz.prog kk .eql 3 (.int .i64 ref) (.int .i64 (-1)) = some (.bool R0) := fun kk => by rw [← hR0]; exact QP
 have ea : ∀ kk, Jf Tryz.prog kk .geq 3 (.int .i64 ref) (.int .i64 0) = some (.bool A) := fun kk => by rw [← hA]; exact Qr
 have ec : ∀ kk, Jf Tryz.prog kk .lss 3 (.int .i64 ref) (.int .i64 (l.length : Int)) = some (.bool C) := fun kk => by rw [← hC]; exact QF
 have e0 : ∀ kk, Jf Tryz.prog kk .eql 5 (.int .u8 (kind : Int)) (.int .u8 0) = some (.bool Z0) := fun kk => by rw [← hZ0]; exact JT
 have eb : ∀ kk, Jf Tryz.prog kk .eql 3 (.int .i64 base) (.int .i64 (-1)) = some (.bool B) := fun kk => by rw [← hB]; exact QP
 have en : ∀ kk, Jf Tryz.prog kk .eql 3 (.int .i64 (names.length : Int)) (.int .i64 0) = some (.bool N0) := fun kk => by rw [← hN0]; exact JT
 have ej : ∀ kk, Jf Tryz.prog kk .eql 3 (.int .i64 (kids.length : Int)) (.int .i64 0) = some (.bool J0) := fun kk => by rw [← hJ0]; exact JT
 rw [hE] at hsm
 rw [hM] at hcm
 rw [hM, hR0, hA, hC, hB, hZ0, hE, hN0, hJ0] at hmy
 rw [hmy] at hR
 refine Ks_ (Ka_ (gs := [none, none]) fun K1 gK => ?_)
 simp (disch := omega) [hF, Ja, ho, hb]
 refine gK _ _ (Ks_ (Ks_ (Ka_ (gs := [none, none, none]) fun K1 gK => ?_)))
 simp (disch := omega) [gT0, l0, er]
 refine gK _ _ ?_
 cases R0 with
 | true =>
  refine Kt_ (by simp (disch := omega) []) (Ks_ (Ka_ (gs := [none, none, none, none]) fun K1 gK => ?_))
  simp (disch := omega) [hF, lt, hcm]
  refine gK _ _ (Kq_ (gr _ _ ?_))
  simp [JM, Tryz.f34, hF]
  refine hR _ _ ?_
  exact ⟨rfl, kq.trans hkm⟩
 | false =>
  refine Kf_ (by simp (disch := omega) []) (Kk_ (Ks_ (Ka_ (gs := [none, none, none, none, some (some 14, true), some (some 14, true), some (some 14, true), some (some 14, true), some (some 14, true), none, none, some (some 21, true), some (some 21, true), some (some 21, true), none, none, some (some 26, true), some (some 26, true), some (some 26, true), none, none, some (some 31, true), some (some 31, true), some (some 31, true), none, none, some (some 36, true), some (some 36, true), some (some 36, true), some (some 36, true), none, none, some (some 42, true), some (some 42, true), some (some 42, true), some (some 42, true), none, none]) fun K1 gK => ?_)))
  refine OkG.cutK 10 (fun fr st' => Fs gl [(3, .ptr st.ctr 0), (20, .bool (A && C))] fr ∧ q = st') (by kernel_rfl) ?_ ?_
  ·as_aux_lemma =>
   intro Kc gKc
   simp only [List.take]
   cases A with
   | true =>
    simp (disch := omega) [hF, gT0, l0, lx, ea, ec]
    exact gKc _ _ ⟨by simp [Fs, hF], rfl⟩
   | false =>
    simp (disch := omega) [gT0, l0, ea]
    exact gKc _ _ ⟨by simp [Fs, hF], rfl⟩
  ·as_aux_lemma =>
   clear hF
   rintro fr st' ⟨hF, rfl⟩
   simp only [Fs] at hF
   simp only [List.drop]
   obtain ⟨B1, hB1⟩ : ∃ b, (A && C) = b := ⟨_, rfl⟩
   rw [hB1] at hF
   refine OkG.cutK 10 (fun fr st' => Fs gl [(3, .ptr st.ctr 0), (30, .bool (B1 && B && Z0))] fr ∧ q = st') (by kernel_rfl) ?_ ?_
   ·as_aux_lemma =>
    intro Kc gKc
    simp only [List.take]
    cases B1 with
    | true =>
     cases B with
     | true =>
      simp (disch := omega) [hF, gT1, gT3, l1, l3, e0, eb]
      exact gKc _ _ ⟨by simp [Fs, hF], rfl⟩
     | false =>
      simp (disch := omega) [hF, gT3, l3, eb]
      exact gKc _ _ ⟨by simp [Fs, hF], rfl⟩
    | false =>
     simp (disch := omega) [hF]
     exact gKc _ _ ⟨by simp [Fs, hF], rfl⟩
   ·as_aux_lemma =>
    clear hF
    rintro fr st' ⟨hF, rfl⟩
    simp only [Fs] at hF
    simp only [List.drop]
    obtain ⟨B2, hB2⟩ : ∃ b, (B1 && B && Z0) = b := ⟨_, rfl⟩
    rw [hB2] at hF
    have hfin : (A && (C && (B && (Z0 && (E && (N0 && J0)))))) = (B2 && (E && (N0 && J0))) := by rw [← hB2, ← hB1]; cases A <;> cases C <;> cases B <;> cases Z0 <;> rfl
    rw [cond_false, hfin] at hR
    cases B2 with
    | true =>
     cases E with
     | true =>
      cases N0 with
      | true =>
       simp (disch := omega) [hF, gT2, gT4, gT5, l2, l4, l5, ln, lk, hsm, en, ej]
       refine gK _ _ (Kq_ (gr _ _ ?_))
       simp [JM, Tryz.f34, hF]
       refine hR _ _ ?_
       exact ⟨rfl, kq⟩
      | false =>
       simp (disch := omega) [hF, gT2, gT4, l2, l4, ln, hsm, en]
       refine gK _ _ (Kq_ (gr _ _ ?_))
       simp [JM, Tryz.f34, hF]
       refine hR _ _ ?_
       exact ⟨rfl, kq⟩
     | false =>
      simp (disch := omega) [hF, gT2, l2, hsm]
      refine gK _ _ (Kq_ (gr _ _ ?_))
      simp [JM, Tryz.f34, hF]
      refine hR _ _ ?_
      exact ⟨rfl, kq⟩
    | false =>
     simp (disch := omega) [hF]
     refine gK _ _ (Kq_ (gr _ _ ?_))
     simp [JM, Tryz.f34, hF]
     refine hR _ _ ?_
     exact ⟨rfl, kq⟩
end Go.Vm
namespace Go.Vm
open Go Go.Proofs Go.Pa
attribute [local simp] OkG Qf Qs OkD J3 Qe JL Je Jk vop Jq Jx ev evs toV Jj Fr.dsTo Fr.glTo Fr.toNone Jg Jh Ji J7 QI Jc JF Jt V.undef JX JQ Qg J8 J9 Qa Qh Qi JT Qb Qj Qc JR Qk JE Jw Jy JD JG Ju JS JW JK Ql
variable [Memo] [NY]
theorem JnS (gl : Gl) {aL : List V} (hh : Hits gl aL) (x : V) (l : List Fw) (hx : Row Fw.cells x l) {t : Tw} (hok : t.ok) : t.small → Jlv gl x l t := by
 induction hok with
 | mk ref kind text base nv names kv kids hk hn hkv hks ih =>
  intro hs
  cases hs with
  | mk _ _ _ _ _ _ _ _ ht hnl hnt hkl hks' =>
   exact fun st => Jmk gl hh st x l hx ref kind text base nv names kv kids hk hn hkv hks (by omega) (by omega) fun t ht => ih t ht (hks' t ht)
end Go.Vm
