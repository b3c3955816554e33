/- Lines of facts: by the document, all. -/
import Derived.Test.YtlholbhaajklhaaGreatDoorRz6
namespace Go.Vm
open Go Go.Proofs Go.Pa
attribute [local simp] OkG Qf Qs OkD J3 Qe JL Je Jk vop Jq Jx ev evs toV Jj Fr.dsTo Fr.glTo Fr.toNone Jg Jh Ji J7 QI Jc JF Jt V.undef JX JQ Qg J8 J9 Qa Qh Qi JT Qb Qj Qc JR Qk JE Jw Jy JD JG Ju JS JW Jb0 Jb1 Q6 Jbh JdL JdM fg0 fg1 fg2 fg3 fg4 fg5 fh0 fh1 JK Ql Jl Jal Jr
theorem Jhr {f : Fw} (h : Jb4 f = true) : f.kind ≤ 3 ∧ (f.known = false → f.kind = 0) ∧ (JcE f = false → f.names = [] ∧ f.rest = 0 ∧ f.beside = 0) ∧ (JcE f = true → (f.rest = 2 ∧ 0 ≤ f.beside ∧ f.beside ≤ (f.names.length : Int)) ∨ ((f.rest = 0 ∨ f.rest = 1) ∧ f.beside = 0)) := by
 unfold Jb4 at h
 cases hh : JdD f with
 | false => rw [hh] at h; cases h
 | true =>
  rw [hh] at h
  unfold JdD at hh
  rw [Bool.and_eq_true, Bool.and_eq_true] at hh
  refine ⟨of_decide_eq_true hh.1.1, fun hk => ?_, fun hd => ?_, fun hd => ?_⟩
  ·have := hh.1.2
   rw [hk] at this
   simpa using this
  ·rw [hd] at h
   simp only [cond_true, cond_false, Jjr, Bool.and_eq_true, decide_eq_true_eq] at h
   exact ⟨List.length_eq_zero_iff.1 h.1.1, h.1.2, h.2⟩
  ·rw [hd] at h
   simp only [cond_true, Bool.and_eq_true] at h
   have hr := h.2
   unfold Jjs at hr
   by_cases h2 : f.rest = 2
   ·rw [decide_eq_true h2] at hr
    simp only [cond_true, Bool.and_eq_true, decide_eq_true_eq] at hr
    exact .inl ⟨h2, hr.1, hr.2⟩
   ·rw [decide_eq_false h2] at hr
    simp only [cond_false, Bool.and_eq_true, Bool.or_eq_true, decide_eq_true_eq] at hr
    exact .inr hr
theorem Jk4 : ∀ m, m ≤ 60 → (Jb9 m).length ≤ 100 := by decide
theorem Ji6 {f : Fw} (h : Jb4 f = true) (hs : f.small) : (JcM f).length ≤ 200 := by
 obtain ⟨hk3, hkn0, hnd, hyd⟩ := Jhr h
 unfold JcM
 cases !f.known <;> simp only [cond_true, cond_false, List.length_cons, List.length_nil] <;> try omega
 cases decide (f.kind = 0) <;> simp only [cond_true, cond_false, List.length_cons, List.length_nil] <;> try omega
 cases decide (f.kind = 1) <;> simp only [cond_true, cond_false, List.length_cons, List.length_nil] <;> try omega
 cases decide (f.kind = 3) <;> simp only [cond_true, cond_false, List.length_cons, List.length_nil] <;> try omega
 cases decide (f.rest = 1) <;> simp only [cond_true, cond_false, List.length_cons, List.length_nil] <;> try omega
 cases h2 : decide (f.rest = 2) <;> simp only [cond_true, cond_false, List.length_cons, List.length_nil, List.length_append] <;> try omega
 have h2 := of_decide_eq_true h2
 have : f.beside.toNat ≤ 60 := by
  have := hs.names
  cases hd : JcE f with
  | true => rcases hyd hd with h | h <;> omega
  | false => have := hnd hd; omega
 have := Jk4 _ this
 omega
theorem Jm9 {lo : Nat} {st : St} {id : Nat} {cs : List V} (hlo : lo ≤ id) (hid : id < st.ctr) (hb : st.box.get id = some (.cells cs 9 true (some 0))) : Mine lo 9 st (.ms id 0 cs.length 1 (some cs.length)) cs := Mine.mk hlo hid hb rfl
variable [Memo] [NY] [NZ]
end Go.Vm
namespace Go.Vm
open Go Go.Proofs Go.Pa
attribute [local simp] OkG Qf Qs OkD J3 Qe JL Je Jk vop Jq Jx ev evs toV Jj Fr.dsTo Fr.glTo Fr.toNone Jg Jh Ji J7 QI Jc JF Jt V.undef JX JQ Qg J8 J9 Qa Qh Qi JT Qb Qj Qc JR Qk JE Jw Jy JD JG Ju JS JW Jb0 Jb1 Q6 Jbh JdL JdM fg0 fg1 fg2 fg3 fg4 fg5 fh0 fh1 JK Ql Jl Jal Jr
def JpD (lo : Nat) (may : Bool) (l : List Fw) (st' : St) (v : V) : Prop := ∃ (y : V) (ts : List S), v = .tup [y, .int .i64 ((cond may 0 4 : Nat) : Int)] ∧ ts.map S.toList = cond may ((QN l l.length 0 []).map (JfR l)) [] ∧ Mine lo 9 st' y (ts.map .str)
variable [Memo] [NY] [NZ]
end Go.Vm
namespace Go.Vm
open Go Go.Proofs Go.Pa
attribute [local simp] OkG Qf Qs OkD J3 Qe JL Je Jk vop Jq Jx ev evs toV Jj Fr.dsTo Fr.glTo Fr.toNone Jg Jh Ji J7 QI Jc JF Jt V.undef JX JQ Qg J8 J9 Qa Qh Qi JT Qb Qj Qc JR Qk JE Jw Jy JD JG Ju JS JW Jb0 Jb1 Q6 Jbh JdL JdM fg0 fg1 fg2 fg3 fg4 fg5 fh0 fh1 JK Ql Jl Jal Jr
def wordsV : List V := [.str (S.ofList [97, 98, 115, 101, 110, 116]), .str (S.ofList [102, 105, 108, 101]), .str (S.ofList [100, 105, 114]), .str (S.ofList [108, 105, 110, 107])]
theorem Jbr : Jd Tryz.prog 83 (.cp wordsV) (.int .u8 0) = some (.cp wordsV) := by kernel_rfl
theorem Jbs : Jd Tryz.prog 83 (.cp wordsV) (.int .u8 1) = some (.cp (wordsV.drop 1)) := by kernel_rfl
theorem Jbt : Jd Tryz.prog 83 (.cp wordsV) (.int .u8 2) = some (.cp (wordsV.drop 2)) := by kernel_rfl
theorem Jbu : Jd Tryz.prog 83 (.cp wordsV) (.int .u8 3) = some (.cp (wordsV.drop 3)) := by kernel_rfl
section
variable (st : St)
theorem Jbv : Jz Tryz.prog st 9 (.cp wordsV) = some (.str (S.ofList [97, 98, 115, 101, 110, 116])) := by simp only [Jz, QQ, a9, z9]; rfl
theorem Jbw : Jz Tryz.prog st 9 (.cp (wordsV.drop 1)) = some (.str (S.ofList [102, 105, 108, 101])) := by simp only [Jz, QQ, a9, z9]; rfl
theorem Jbx : Jz Tryz.prog st 9 (.cp (wordsV.drop 2)) = some (.str (S.ofList [100, 105, 114])) := by simp only [Jz, QQ, a9, z9]; rfl
theorem Jby : Jz Tryz.prog st 9 (.cp (wordsV.drop 3)) = some (.str (S.ofList [108, 105, 110, 107])) := by simp only [Jz, QQ, a9, z9]; rfl
end
theorem Ji7 {kk : Bool} {a b : List UInt8} (h : a.length + b.length < 1000) : Jf Tryz.prog kk .add 9 (.str (S.ofList a)) (.str (S.ofList b)) = some (.str ((S.ofList a).app (S.ofList b))) := QB (by rw [JP, JP]; omega)
variable [Memo] [NY] [NZ]
set_option maxRecDepth 100000 in
theorem Jo8 (gl : Gl) (hw : gl.get 2 = some wordsV) (st : St) (f : Fw) (hok : f.ok) (hs : f.small) (hone : Jb4 f = true) :
  Says Tryz.prog gl 46 [.agg f.cells] st (fun v st' => (∃ t : S, v = .str t ∧ t.toList = JcM f) ∧ Keep st st') := by
 refine QD (NY.no _ rfl rfl rfl _ _) Tryz.func46 rfl (by kernel_rfl) fun R hR K gr gn => ?_
 generalize hfr : JH gl [.agg f.cells] = fr
 have hF : Fs gl [(0, .agg f.cells)] fr := by subst hfr; simp [Fs]
 simp only [Fs] at hF
 clear hfr
 have ho := Fw.ones hok
 have hk1 := JcD st f
 have b1 := Jc7 st f
 have hnf : ({ ctr := st.ctr + 1, box := st.box.put st.ctr (.cells f.cells 47 true (some 0)) } : St) = Jba st f := rfl
 generalize Jba st f = q1 at hk1 b1 hnf
 have l0 := Jb (P := Tryz.prog) (off := 0) a4 z4 b1 rfl
 have l1 := Jb (P := Tryz.prog) (off := 1) a5 z5 b1 rfl
 have l4 := Jb (P := Tryz.prog) (off := 4) a3 z3 b1 rfl
 have l5 := Jb (P := Tryz.prog) (off := 5) a3 z3 b1 rfl
 obtain ⟨hk3, hkn0, hnd, hyd⟩ := Jhr hone
 obtain ⟨kn, hkn⟩ : ∃ b, f.known = b := ⟨_, rfl⟩
 have hre : ∀ kk c, Jf Tryz.prog kk .eql 3 (.int .i64 f.rest) (.int .i64 c) = some (.bool (decide (f.rest = c))) := fun kk c => QP
 refine Ks_ (Ka_ (gs := [none, none]) fun K1 gK => ?_)
 simp (disch := omega) [hF, ho, hnf]
 refine gK _ _ (Ks_ ?_)
 refine Kb_ fun K1 gn1 gx1 go1 => ?_
 have gr1 := fun fr st h => go1 AE.ret fr st trivial (gr fr st h)
 refine Ks_ (Ka_ (gs := [none, none, none, none]) fun K1 gK => ?_)
 simp (disch := omega) [l0, hkn]
 refine gK _ _ ?_
 cases kn with
 | true =>
  refine Kf_ (by simp (disch := omega) []) (Ks_ (Ka_ (gs := [none, none, none, none]) fun K1 gK => ?_))
  simp (disch := omega) [l4, hre]
  refine gK _ _ ?_
  have hkd : f.rest ≠ 0 → f.kind = 2 := fun h => by
   cases hd : JcE f with
   | true =>
    unfold JcE at hd
    rw [hkn] at hd
    simpa using hd
   | false => exact absurd (hnd hd).2.1 h
  by_cases hr1 : f.rest = 1
  ·
   refine Kt_ (by simp (disch := omega) [hr1]) ?_
   have h2 : f.kind = 2 := hkd (by omega)
   have ad := fun kk => Ji7 (kk := kk) (a := [100, 105, 114]) (b := [32, 119, 104, 111, 108, 101]) (by simp)
   refine Ks_ (Ka_ (gs := [none, none, none, none, none, none]) fun K1 gK => ?_)
   simp (disch := omega) [hF, l1, hw, Jbt, Jbx, hr1, h2, ad]
   refine gK _ _ (Kq_ (gr1 _ _ ?_))
   simp [JM, Tryz.f46, hF]
   refine hR _ _ ?_
   exact ⟨⟨_, rfl, by rw [S.toList_app, S.toList_ofList, S.toList_ofList]; simp [JcM, hkn, h2, hr1]⟩, hk1⟩
  ·
   refine Kf_ (by simp (disch := omega) [hr1]) (Ks_ (Ka_ (gs := [none, none, none, none]) fun K1 gK => ?_))
   simp (disch := omega) [l4, hre, hr1]
   refine gK _ _ ?_
   by_cases hr2 : f.rest = 2
   ·
    refine Kt_ (by simp (disch := omega) [hr2]) ?_
    have h2 : f.kind = 2 := hkd (by omega)
    have hbe : 0 ≤ f.beside ∧ f.beside ≤ 60 := by
     have := hs.names
     have hd : JcE f = true := by unfold JcE; rw [hkn, h2]; rfl
     rcases hyd hd with h | h
     ·omega
     ·omega
    obtain ⟨nb, hnb⟩ := Int.eq_ofNat_of_zero_le hbe.1
    obtain ⟨v, q4, hcd, ⟨dt, rfl, hdt⟩, hq4⟩ := Says.use (JkS gl { ctr := q1.ctr + 10, box := q1.box } nb (by omega))
    rw [show q4 = { ctr := q1.ctr + 10, box := q1.box } from hq4] at hcd
    have ad := fun kk => Ji7 (kk := kk) (a := [100, 105, 114]) (b := [32, 109, 111, 114, 101, 32]) (by simp)
    have hdn : dt.n ≤ 100 := by
     have h1 := congrArg List.length hdt
     rw [S.len] at h1
     rw [h1]
     exact Jk4 nb (by omega)
    have a2 : ∀ kk, Jf Tryz.prog kk .add 9 (.str ((S.ofList [100, 105, 114]).app (S.ofList [32, 109, 111, 114, 101, 32]))) (.str dt) = some (.str (((S.ofList [100, 105, 114]).app (S.ofList [32, 109, 111, 114, 101, 32])).app dt)) := fun kk => QB (by rw [Jbk, JP, JP]; simp; omega)
    refine Ks_ (Kj_ (b := [0, 1, 3, 7, 15, 0, 32, 96, 255, 511]) (rs := [(5, 3), (0, 5), (8, 2)]) fun K1 gK => ?_)
    simp (disch := omega) [hF, l1, l5, hw, Jbt, Jbx, hr2, h2, ad, hnb, hcd, a2]
    refine gK _ _ (Kq_ (gr1 _ _ ?_))
    simp [JM, Tryz.f46, hF]
    refine hR _ _ ?_
    exact ⟨⟨_, rfl, by rw [S.toList_app, S.toList_app, S.toList_ofList, S.toList_ofList, hdt]; simp [JcM, hkn, h2, hr2, hnb]⟩, hk1.tick 10⟩
   ·
    refine Kf_ (by simp (disch := omega) [hr2]) ?_
    by_cases k0 : f.kind = 0
    ·
     refine Kk_ (gn1 _ _ (Ks_ (Ka_ (gs := [none, none, none, none, none]) fun K1 gK => ?_)))
     simp (disch := omega) [hF, l1, hw, Jbr, Jbv, hr2, k0]
     refine gK _ _ (Kq_ (gr _ _ ?_))
     simp [JM, Tryz.f46, hF]
     refine hR _ _ ?_
     exact ⟨⟨_, rfl, by rw [S.toList_ofList]; simp [JcM, hkn, k0]⟩, hk1⟩
    ·
     by_cases k1 : f.kind = 1
     ·
      refine Kk_ (gn1 _ _ (Ks_ (Ka_ (gs := [none, none, none, none, none]) fun K1 gK => ?_)))
      simp (disch := omega) [hF, l1, hw, Jbs, hr2, k1]
      refine gK _ _ (Kq_ (gr _ _ ?_))
      simp [JM, Tryz.f46, hF]
      refine hR _ _ ?_
      exact ⟨⟨_, rfl, by rw [S.toList_ofList]; simp [JcM, hkn, k1]⟩, hk1⟩
     ·
      by_cases k2 : f.kind = 2
      ·
       refine Kk_ (gn1 _ _ (Ks_ (Ka_ (gs := [none, none, none, none, none]) fun K1 gK => ?_)))
       simp (disch := omega) [hF, l1, hw, Jbt, Jbx, hr2, k2]
       refine gK _ _ (Kq_ (gr _ _ ?_))
       simp [JM, Tryz.f46, hF]
       refine hR _ _ ?_
       exact ⟨⟨_, rfl, by rw [S.toList_ofList]; simp [JcM, hkn, k2, hr1, hr2]⟩, hk1⟩
      ·
       have k3 : f.kind = 3 := by omega
       refine Kk_ (gn1 _ _ (Ks_ (Ka_ (gs := [none, none, none, none, none]) fun K1 gK => ?_)))
       simp (disch := omega) [hF, l1, hw, Jbu, Jby, hr2, k3]
       refine gK _ _ (Kq_ (gr _ _ ?_))
       simp [JM, Tryz.f46, hF]
       refine hR _ _ ?_
       exact ⟨⟨_, rfl, by rw [S.toList_ofList]; simp [JcM, hkn, k3]⟩, hk1⟩
 | false =>
  refine Kt_ (by simp (disch := omega) []) (Ks_ (Ka_ (gs := [none]) fun K1 gK => ?_))
  simp (disch := omega) []
  refine gK _ _ (Kq_ (gr1 _ _ ?_))
  simp [JM, Tryz.f46, hF]
  refine hR _ _ ?_
  exact ⟨⟨_, rfl, by rw [S.toList_ofList]; simp [JcM, hkn]⟩, hk1⟩
end Go.Vm
namespace Go.Vm
open Go Go.Proofs Go.Pa
attribute [local simp] OkG Qf Qs OkD J3 Qe JL Je Jk vop Jq Jx ev evs toV Jj Fr.dsTo Fr.glTo Fr.toNone Jg Jh Ji J7 QI Jc JF Jt V.undef JX JQ Qg J8 J9 Qa Qh Qi JT Qb Qj Qc JR Qk JE Jw Jy JD JG Ju JS JW Jb0 Jb1 Q6 Jbh JdL JdM fg0 fg1 fg2 fg3 fg4 fg5 fh0 fh1 JK Ql Jl Jal Jr
set_option maxRecDepth 100000 in
theorem i5 : ∃ i, Tryz.prog.info? 5 = some i ∧ i.size = 1 ∧ i.bytes ≤ 64 := ⟨_, rfl, by decide, by decide⟩
theorem zs5 : QZ Tryz.prog 5 = some (.int .u8 0) := by kernel_rfl
theorem z90 : JU Tryz.prog 61 = some 1 := by kernel_rfl
theorem a90 : QM Tryz.prog 61 = some false := by kernel_rfl
theorem z91 : JU Tryz.prog 62 = some 1 := by kernel_rfl
theorem a91 : QM Tryz.prog 62 = some false := by kernel_rfl
theorem Jdt : QZ Tryz.prog 64 = some (.agg [.nilp, .nils]) := by kernel_rfl
theorem fb0 (id : Nat) : Jo Tryz.prog 64 (.ptr id 0) 0 = some (.ptr id 0) := by kernel_rfl
theorem fb1 (id : Nat) : Jo Tryz.prog 64 (.ptr id 0) 1 = some (.ptr id 1) := by kernel_rfl
theorem u91 : Tryz.prog.underlying 62 = some (.slice 5) := by kernel_rfl
theorem u5 : Tryz.prog.underlying 5 = some (.int .u8) := by kernel_rfl
theorem Qo (l : List UInt8) : (Qv l).length = l.length := by simp [Qv]
theorem Jgp (a b : List UInt8) : Qv (a ++ b) = Qv a ++ Qv b := by simp [Qv]
theorem Jgq (l : List UInt8) : (Qv l).all JZ = true := by simp [Qv, JZ]
theorem JeO : ∀ l : List UInt8, bytesOf (Qv l) = some l
 | [] => rfl
 | a :: l => by
  have ih := JeO l
  simp only [Qv, List.map_cons, bytesOf] at ih ⊢
  rw [ih]; simp
theorem Jo9 {st : St} {x s : V} {l m : List V} {lo : Nat} (h : Mine lo 5 st x l) (hm : Ja4 st s m) (hlo : lo ≤ st.ctr) (hb : l.length + m.length ≤ 1000000000000) :
  ∃ y st', QR Tryz.prog st 62 x s = some (y, st') ∧ Low lo st st' ∧ Mine lo 5 st' y (l ++ m) ∧ (∀ i, vid y i → vid x i ∨ st.ctr ≤ i) ∧ ∀ i, i < st.ctr → ¬ vid x i → st'.box.get i = st.box.get i := by
 obtain ⟨i, hi, h1, h2⟩ := i5
 refine h.push2 u91 hi h1 zs5 rfl hm hlo ?_ (by simp [JA]; omega)
 refine Nat.le_trans (Nat.mul_le_mul hb h2) (by simp [JA])
theorem Jkc (st : St) (s : S) : Ja4 st (.str s) (Qv s.toList) := by
 refine ⟨?_, Jgq _⟩
 simp only [Jad, Qo, S.len]
def Bld (lo b : Nat) (st : St) (l : List UInt8) : Prop := ∃ y, st.box.get b = some (.cells [.ptr b 0, y] 64 true (some 0)) ∧ lo ≤ b ∧ b < st.ctr ∧ Mine lo 5 st y (Qv l) ∧ ¬ vid y b
theorem Jpa : liesAt Tryz.prog Tryz.prog.depth 64 ([V.nilp, V.nils].length / Tryz.prog.cellsOf 64) 0 64 1 = true := by kernel_rfl
theorem u90 : Tryz.prog.underlying 61 = some (.pointer 64) := by kernel_rfl
theorem JpE : Tryz.prog.underlying 120 = some .unsafePointer := by kernel_rfl
theorem z93 : JU Tryz.prog 64 = some 2 := by kernel_rfl
theorem JpF {st : St} {id : Nat} (hb : st.box.get id = some (.cells [.nilp, .nils] 64 true (some 0))) : Jbl Tryz.prog st 61 120 (.ptr id 0) = some (.ptr id 0) := by
 simp only [Jbl, u90, JpE, hb, z93]
 rfl
theorem JpG {st : St} {id : Nat} (hb : st.box.get id = some (.cells [.nilp, .nils] 64 true (some 0))) : Jbl Tryz.prog st 120 61 (.ptr id 0) = some (.ptr id 0) := by
 simp only [Jbl, u90, JpE, hb, z93, Jpa]
theorem Jna {id off : Nat} {kk : Bool} : Jf Tryz.prog kk .eql 61 (.ptr id off) .nilp = some (.bool false) := by simp only [Jf, u90]
theorem Jk5 {kk : Bool} : Jf Tryz.prog kk .eql 61 .nilp .nilp = some (.bool true) := by cases kk <;> kernel_rfl
theorem Jgr {id : Nat} {kk : Bool} : Jf Tryz.prog kk .neq 61 (.ptr id 0) (.ptr id 0) = some (.bool false) := by
 simp only [Jf, u90, z93, Nat.beq_refl]
 rfl
theorem Jp6 : Tryz.prog.underlying 94 = some (.pointer 5) := by kernel_rfl
theorem co5 : Tryz.prog.cellsOf 5 = 1 := by kernel_rfl
theorem Jp7 {st : St} {lo m : Nat} {y : V} {l : List UInt8} (hm : Mine lo 5 st y (Qv l)) (hlm : l.length = m + 1) (hl : l.length ≤ 1000000000000) :
  ∃ id cap st', y = .ms id 0 (m + 1) 1 cap ∧ Jc1 Tryz.prog { ctr := st.ctr + 12, box := st.box } 94 (.ptr id 0) (.int .i64 (l.length : Int)) = some (.str (S.ofList l), st') ∧ Low lo st st' := by
 generalize hb : Qv l = bl at hm
 cases hm with
 | nils =>
  have := congrArg List.length hb
  rw [Qo] at this
  have h0 : l.length = 0 := this
  omega
 | ms id n cap cs fl hlo hid hbx hn hcap =>
  have hnl : n = l.length := by
   have := congrArg List.length hb
   rw [Qo, List.length_take, Nat.min_eq_left hn] at this
   exact this.symm
  have h1 : Nat.ble (0 + l.length) cs.length = true := Nat.ble_eq_true_of_le (by omega)
  have h2 : Nat.ble l.length JA = true := Nat.ble_eq_true_of_le (by simp [JA]; omega)
  have h3 : bytesOf (sub cs 0 l.length) = some l := by
   rw [show sub cs 0 l.length = Qv l from by rw [hb, hnl]; rfl]
   exact JeO l
  refine ⟨id, cap, { ctr := st.ctr + 12, box := st.box.put id (.cells cs 5 fl (some (Nat.max 0 (0 + l.length)))) }, by rw [← hlm, ← hnl], ?_, ⟨by show st.ctr ≤ st.ctr + 12; omega, fun i hi => by show (st.box.put id _).get i = _; rw [Tr.get_put, if_neg (by omega)]⟩⟩
  have ha : JaC (.int .i64 (l.length : Int)) = some (m + 1) := by rw [← hlm]; rfl
  simp only [Jc1, ha, hbx, Jp6, co5]
  rw [← hlm, h1, h2, h3]
  rfl
variable [Memo] [NY] [NZ]
omit [NZ] in
set_option maxRecDepth 100000 in
theorem Jh1 (gl : Gl) (st : St) (b : Nat) (y : V) (hb : st.box.get b = some (.cells [.ptr b 0, y] 64 true (some 0))) :
  Says Tryz.prog gl 64 [.ptr b 0] st (fun _v st' => Sm st st') := by
 refine QD (NY.no _ rfl rfl rfl _ _) Tryz.func64 rfl (by kernel_rfl) fun R hR K gr gn => ?_
 generalize hfr : JH gl [.ptr b 0] = fr
 have hF : Fs gl [(0, .ptr b 0)] fr := by subst hfr; simp [Fs]
 simp only [Fs] at hF
 clear hfr
 have l0 := Jb (P := Tryz.prog) (off := 0) a90 z90 hb rfl
 refine Ks_ (Ka_ (gs := [none, none, none, none, none]) fun K1 gK => ?_)
 simp (disch := omega) [hF, fb0, l0, Jna]
 refine gK _ _ (Kf_ (by simp (disch := omega) []) (Ks_ (Ka_ (gs := [none, none, none, none, none, none]) fun K1 gK => ?_)))
 simp (disch := omega) [hF, fb0, l0, Jgr]
 refine gK _ _ (Kf_ (by simp (disch := omega) []) (Kk_ (gn _ _ ?_)))
 simp [JM, Tryz.f64, hF]
 refine hR _ _ ?_
 exact rfl
omit [NZ] in
set_option maxRecDepth 100000 in
theorem JgY (gl : Gl) (st : St) (b : Nat) (hb : st.box.get b = some (.cells [.nilp, .nils] 64 true (some 0))) :
  Says Tryz.prog gl 64 [.ptr b 0] st (fun _v st' => st' = st.put b (.cells [.ptr b 0, .nils] 64 true (some 0))) := by
 refine QD (NY.no _ rfl rfl rfl _ _) Tryz.func64 rfl (by kernel_rfl) fun R hR K gr gn => ?_
 generalize hfr : JH gl [.ptr b 0] = fr
 have hF : Fs gl [(0, .ptr b 0)] fr := by subst hfr; simp [Fs]
 simp only [Fs] at hF
 clear hfr
 have l0 := Jb (P := Tryz.prog) (off := 0) a90 z90 hb rfl
 have c1 := JpF hb
 have c2 := JpG hb
 have w := JaM (P := Tryz.prog) (t := 61) (off := 0) (v := .ptr b 0) z90 hb (by simp) rfl
 have hdoor : Jax Tryz.prog (ihCall (W Tryz.prog)) gl 81 [.ptr b 0] st = .val (.ptr b 0) st := by
  have hn : Extern.findNext Tryz.f81 = none := by kernel_rfl
  have hx : Q8 Tryz.prog Tryz.f81 [.ptr b 0] = none := by
   simp only [Q8, hn]
   cases Extern.find Tryz.f81 with
   | none => rfl
   | some e => rfl
  have hd : Jhp Tryz.prog Tryz.f81 [.ptr b 0] st = some (.ptr b 0, st) := rfl
  simp only [Jax, Tryz.func81, show (Tryz.f81.name == "runtime.NumGoroutine") = false from by kernel_rfl, show Tryz.f81.body = none from rfl, hx, hn, hd]
 refine Ks_ (Ka_ (gs := [none, none, none, none, none]) fun K1 gK => ?_)
 simp (disch := omega) [hF, fb0, l0, Jk5]
 refine gK _ _ (Kt_ (by simp (disch := omega) []) (Ka_ (gs := [none, none, none, none, none, none, none, none]) fun K1 gK => ?_))
 simp (disch := omega) [hF, fb0, c1, c2, w, hdoor]
 refine gK _ _ (gn _ _ ?_)
 simp [JM, Tryz.f64, hF]
 refine hR _ _ ?_
 exact rfl
set_option maxRecDepth 100000 in
omit [Memo] [NY] [NZ] in
theorem Jpb [Memo] {gl : Gl} {st : St} {N : Nat} (h0 : 0 < N) (hN : N ≤ 1000000000000) : Jax Tryz.prog (ihCall (W Tryz.prog)) gl 96 [.int .i64 (N : Int)] st = .val (.ms st.ctr 0 N 1 none) { ctr := st.ctr + 1, box := st.box.put st.ctr (.cells [] 5 false (some 0)) } := by
 obtain ⟨n, rfl⟩ : ∃ n, N = n + 1 := ⟨N - 1, by omega⟩
 have hn : Extern.findNext Tryz.f96 = none := by kernel_rfl
 have hx : Q8 Tryz.prog Tryz.f96 [.int .i64 ((n + 1 : Nat) : Int)] = none := by
  have hf := Je5 Tryz.f96 (by kernel_rfl)
  have hu : QS Tryz.prog (Extern.BytealgMakeNoZero.makeNoZero Tryz.f96.params #[62] #[.int .i64 ((n + 1 : Nat) : Int)]) = none := by
   have hc : (decide (((n + 1 : Nat) : Int) < 0) || decide (((n + 1 : Nat) : Int) > 2 ^ 48)) = false := by
    rw [decide_eq_false (by omega), decide_eq_false (by omega)]; rfl
   have hdef : Extern.BytealgMakeNoZero.makeNoZero Tryz.f96.params #[62] #[.int .i64 ((n + 1 : Nat) : Int)] = (do
     let .slice elem ← underlying 62 | stuck "bytealg.MakeNoZero: slice type expected"
     if ((n + 1 : Nat) : Int) < 0 || ((n + 1 : Nat) : Int) > 2 ^ 48 then runtimePanic (.error "makeslice: len out of range")
     let cap ← choose (.appendCap ((n + 1 : Nat) : Int).toNat 0 elem)
     askRoom cap
     let bytes ← choose (.extern "internal/bytealg.MakeNoZero.bytes" 0)
     let a ← newRow elem (Extern.BytealgMakeNoZero.digits cap bytes #[])
     pure (.slice (some a) ((n + 1 : Nat) : Int).toNat cap)) := rfl
   rw [hdef, JaB, Jac u91]
   simp only [Option.bind_some, hc, Bool.false_eq_true, if_false]
   rfl
  rw [show Q8 Tryz.prog Tryz.f96 [.int .i64 ((n + 1 : Nat) : Int)] = QO Tryz.prog (fun l => Extern.BytealgMakeNoZero.makeNoZero Tryz.f96.params Tryz.f96.resultTypes l.toArray) [.int .i64 ((n + 1 : Nat) : Int)] from by simp only [Q8, hn, hf]]
  rw [show Tryz.f96.resultTypes = #[62] from by kernel_rfl]
  simp only [QO, Jc, ofV]
  show (match QS Tryz.prog (Extern.BytealgMakeNoZero.makeNoZero Tryz.f96.params #[62] #[.int .i64 ((n + 1 : Nat) : Int)]) with
   | some v => toV 6 v
   | none => none) = none
  rw [hu]
 have hb : Nat.ble (n + 1) JA = true := Nat.ble_eq_true_of_le (by simp [JA]; omega)
 have hd : Jhp Tryz.prog Tryz.f96 [.int .i64 ((n + 1 : Nat) : Int)] st = some (.ms st.ctr 0 (n + 1) 1 none, { ctr := st.ctr + 1, box := st.box.put st.ctr (.cells [] 5 false (some 0)) }) := by
  show (match Tryz.f96.resultTypes.toList, Nat.ble (n + 1) JA with
   | [t], true => (match Tryz.prog.underlying t with
    | some (.slice e) => some (V.ms st.ctr 0 (n + 1) 1 none, ({ ctr := st.ctr + 1, box := st.box.put st.ctr (.cells [] e false (some 0)) } : St))
    | _ => none)
   | _, _ => none) = _
  rw [hb, show Tryz.f96.resultTypes.toList = [62] from by kernel_rfl]
  simp only [u91]
 simp only [Jax, Tryz.func96, show (Tryz.f96.name == "runtime.NumGoroutine") = false from by kernel_rfl, show Tryz.f96.body = none from rfl, hx, hn, hd]
omit [NZ] in
set_option maxRecDepth 100000 in
theorem Joc (gl : Gl) (st : St) (b N : Nat) (h0 : 0 < N) (hN : N ≤ 1000000000000) (hbc : b < st.ctr) (hb : st.box.get b = some (.cells [.ptr b 0, .nils] 64 true (some 0))) :
  Says Tryz.prog gl 82 [.ptr b 0, .int .i64 (N : Int)] st (fun _v st' => Bld b b st' [] ∧ st.ctr ≤ st'.ctr ∧ ∀ i, i < st.ctr → i ≠ b → st'.box.get i = st.box.get i) := by
 refine QD (NY.no _ rfl rfl rfl _ _) Tryz.func82 rfl (by kernel_rfl) fun R hR K gr gn => ?_
 generalize hfr : JH gl [.ptr b 0, .int .i64 (N : Int)] = fr
 have hF : Fs gl [(0, .ptr b 0), (1, .int .i64 (N : Int))] fr := by subst hfr; simp [Fs]
 simp only [Fs] at hF
 clear hfr
 have l1 := Jb (P := Tryz.prog) (off := 1) a91 z91 hb rfl
 have hmul : ∀ kk, Jf Tryz.prog kk .mul 3 (.int .i64 2) (.int .i64 0) = some (.int .i64 0) := fun kk => by cases kk <;> kernel_rfl
 have hd := Jpb (gl := gl) (st := { ctr := st.ctr + 16, box := st.box }) h0 hN
 obtain ⟨q1, hq1⟩ : ∃ s : St, s = { ctr := st.ctr + 16 + 1, box := st.box.put (st.ctr + 16) (.cells [] 5 false (some 0)) } := ⟨_, rfl⟩
 have k1 : Keep st q1 := by rw [hq1]; exact ((Keep.refl st).tick 16).new _
 have c1 : q1.ctr = st.ctr + 17 := by rw [hq1]
 have g1 : q1.box.get (st.ctr + 16) = some (.cells [] 5 false (some 0)) := by rw [hq1]; simp [Tr.get_put]
 have hb1 := (k1.box b hbc).trans hb
 have l2 := Jb (P := Tryz.prog) (off := 1) a91 z91 hb1 rfl
 have hsl : Jaf Tryz.prog 62 (.ms (st.ctr + 16) 0 N 1 none) none (some (.int .i64 0)) = some (.ms (st.ctr + 16) 0 0 1 none) := by
  simp only [Jaf, u91, J5, z5, show JaC (.int .i64 0) = some 0 from rfl]
  simp [Jc0, JdS, Nat.ble]
 have hq1' := hq1.symm
 have w := JaM (P := Tryz.prog) (st := q1) (t := 62) (off := 1) (v := .ms (st.ctr + 16) 0 0 1 none) z91 hb1 (by simp) rfl
 have hcp : Jei Tryz.prog q1 62 (.ms (st.ctr + 16) 0 0 1 none) .nils = some (.int .i64 0, q1) := by
  simp only [Jei, u91, z5, Jad, JV]
 have u91' := u91
 refine Ks_ (Ki_ (b := [0, 1, 3, 7, 15, 31, 0, 127, 255, 0, 512, 1536, 3584, 7680, 16383, 32767]) fun K1 gK => ?_)
 simp (disch := omega) [hF, fb1, l1, hmul, hd, l2, hsl, hq1', u91', QY]
 refine gK _ _ (Ks_ (Ka_ (gs := [none, none, none, none, none, none]) fun K1 gK => ?_))
 simp (disch := omega) [hF, fb1, l2, hcp]
 refine gK _ _ (Ka_ (gs := [none, none, none, none, none]) fun K1 gK => ?_)
 simp (disch := omega) [hF, fb1, w]
 refine gK _ _ (gn _ _ ?_)
 simp [JM, Tryz.f82, hF]
 refine hR _ _ ?_
 have hbb : (q1.put b (.cells [.ptr b 0, .ms (st.ctr + 16) 0 0 1 none] 64 true (some 0))).box.get b = some (.cells [.ptr b 0, .ms (st.ctr + 16) 0 0 1 none] 64 true (some 0)) := by rw [Jm, if_pos rfl]
 refine ⟨⟨.ms (st.ctr + 16) 0 0 1 none, hbb, Nat.le_refl _, by show b < q1.ctr; omega, ?_, by show ¬ b = st.ctr + 16; omega⟩, by show st.ctr ≤ q1.ctr; omega, fun i hi hib => ?_⟩
 ·have := Mine.ms (lo := b) (e := 5) (st := q1.put b (.cells [.ptr b 0, .ms (st.ctr + 16) 0 0 1 none] 64 true (some 0))) (st.ctr + 16) 0 none [] false (by omega) (by rw [JB]; omega) (by rw [Jm, if_neg (by omega)]; exact g1) (Nat.le_refl _) (fun c hc => by cases hc)
  exact this
 ·show (q1.put b _).box.get i = _
  rw [Jm, if_neg hib]; exact k1.box i hi
omit [NZ] in
set_option maxRecDepth 100000 in
theorem Ji8 (gl : Gl) (st : St) (b N : Nat) (h0 : 0 < N) (hN : N ≤ 1000000000000) (hbc : b < st.ctr) (hb : st.box.get b = some (.cells [.nilp, .nils] 64 true (some 0))) :
  Says Tryz.prog gl 65 [.ptr b 0, .int .i64 (N : Int)] st (fun _v st' => Bld b b st' [] ∧ st.ctr ≤ st'.ctr ∧ ∀ i, i < st.ctr → i ≠ b → st'.box.get i = st.box.get i) := by
 refine QD (NY.no _ rfl rfl rfl _ _) Tryz.func65 rfl (by kernel_rfl) fun R hR K gr gn => ?_
 generalize hfr : JH gl [.ptr b 0, .int .i64 (N : Int)] = fr
 have hF : Fs gl [(0, .ptr b 0), (1, .int .i64 (N : Int))] fr := by subst hfr; simp [Fs]
 simp only [Fs] at hF
 clear hfr
 obtain ⟨v, q1, hcc, hq1⟩ := Says.use (JgY gl st b hb)
 have c1 : q1.ctr = st.ctr := by rw [hq1, JB]
 have hb1 : q1.box.get b = some (.cells [.ptr b 0, .nils] 64 true (some 0)) := by rw [hq1, Jm, if_pos rfl]
 have ho1 : ∀ i, i ≠ b → q1.box.get i = st.box.get i := fun i hi => by rw [hq1, Jm, if_neg hi]
 clear hq1
 have l1 := Jb (P := Tryz.prog) (off := 1) a91 z91 hb1 rfl
 obtain ⟨v2, q2, hg, hbl, hc2, ho2⟩ := Says.use (Joc gl { ctr := q1.ctr + 13, box := q1.box } b N h0 hN (by show b < q1.ctr + 13; omega) hb1)
 have u91' := u91
 refine Ks_ (Ka_ (gs := [none, none]) fun K1 gK => ?_)
 simp (disch := omega) [hF, hcc]
 refine gK _ _ (Ks_ (Ks_ (Ka_ (gs := [none, none]) fun K1 gK => ?_)))
 simp (disch := omega) [hF]
 refine gK _ _ (Kf_ (by simp (disch := omega) []) (Kk_ (Ks_ (Ki_ (b := [0, 1, 3, 7, 15, 0, 32, 96, 224, 480, 1023, 0, 4095]) fun K1 gK => ?_))))
 simp (disch := omega) [hF, fb1, l1, u91', QY]
 refine gK _ _ (Kt_ (by simp (disch := omega) [h0]) (Ka_ (gs := [none, none, none]) fun K1 gK => ?_))
 simp (disch := omega) [hF, hg, h0]
 refine gK _ _ (gn _ _ ?_)
 simp [JM, Tryz.f65, hF]
 refine hR _ _ ?_
 exact ⟨hbl, by have : q1.ctr + 13 ≤ q2.ctr := hc2; omega, fun i hi hib => by rw [ho2 i (by show i < q1.ctr + 13; omega) hib]; exact ho1 i hib⟩
omit [NZ] in
set_option maxRecDepth 100000 in
theorem Jcj (gl : Gl) (st : St) (lo b : Nat) (l : List UInt8) (s : S) (hb : Bld lo b st l) (hl : l.length + s.n ≤ 1000000000000) :
  Says Tryz.prog gl 38 [.ptr b 0, .str s] st (fun _v st' => Bld lo b st' (l ++ s.toList) ∧ Low lo st st') := by
 refine QD (NY.no _ rfl rfl rfl _ _) Tryz.func38 rfl (by kernel_rfl) fun R hR K gr gn => ?_
 generalize hfr : JH gl [.ptr b 0, .str s] = fr
 have hF : Fs gl [(0, .ptr b 0), (1, .str s)] fr := by subst hfr; simp [Fs]
 simp only [Fs] at hF
 clear hfr
 obtain ⟨y, b1, hlo, hbc, hm, hv⟩ := hb
 obtain ⟨v, q1, hcc, hq1⟩ := Says.use (Jh1 gl st b y b1)
 rw [show q1 = st from hq1] at hcc
 clear hq1
 have l1 := Jb (P := Tryz.prog) (off := 1) a91 z91 b1 rfl
 obtain ⟨z, q2, ha, hl2, hm2, hv2, ho2⟩ := Jo9 hm (Jkc st s) (by omega) (by rw [Qo, Qo, S.len]; exact hl)
 have b2 := (ho2 b hbc hv).trans b1
 have hvz : ¬ vid z b := fun h => by
  rcases hv2 b h with h | h
  ·exact hv h
  ·omega
 have w := JaM (P := Tryz.prog) (st := q2) (t := 62) (off := 1) (v := z) z91 b2 (by simp) hm2.sim
 have ls := Jap Tryz.underlying9 (s := s)
 refine Ks_ (Ka_ (gs := [none, none]) fun K1 gK => ?_)
 simp (disch := omega) []
 refine gK _ _ (Ks_ (Ka_ (gs := [none, none]) fun K1 gK => ?_))
 simp (disch := omega) [hF, hcc]
 refine gK _ _ (Ks_ (Ka_ (gs := [none, none, none, none, none, none, none, none, none, none]) fun K1 gK => ?_))
 simp (disch := omega) [hF, fb1, l1, ha, w, Tryz.underlying9]
 refine gK _ _ (Ks_ (Ka_ (gs := [none, none, none, none]) fun K1 gK => ?_))
 simp (disch := omega) [hF, ls]
 refine gK _ _ (Kq_ (gr _ _ ?_))
 simp [JM, Tryz.f38, hF]
 refine hR _ _ ?_
 have hbb : (q2.put b (.cells [.ptr b 0, z] 64 true (some 0))).box.get b = some (.cells [.ptr b 0, z] 64 true (some 0)) := by rw [Jm, if_pos rfl]
 refine ⟨⟨z, hbb, hlo, by have := hl2.ctr; show b < q2.ctr; omega, ?_, hvz⟩, ⟨hl2.ctr, fun i hi => ?_⟩⟩
 ·rw [Jgp]
  exact hm2.stab (Nat.le_refl _) fun i hi => by
   show (q2.put b _).box.get i = _
   rw [Jm, if_neg (by rintro rfl; exact hvz hi)]
 ·show (q2.put b _).box.get i = _
  rw [Jm, if_neg (by omega)]; exact hl2.box i hi
omit [NZ] in
set_option maxRecDepth 100000 in
theorem Jhs (gl : Gl) (st : St) (lo b : Nat) (l : List UInt8) (hb : Bld lo b st l) (hl : l.length ≤ 1000000000000) (hne : l ≠ []) :
  Says Tryz.prog gl 40 [.ptr b 0] st (fun v st' => (∃ t : S, v = .str t ∧ t.toList = l) ∧ Low lo st st') := by
 refine QD (NY.no _ rfl rfl rfl _ _) Tryz.func40 rfl (by kernel_rfl) fun R hR K gr gn => ?_
 generalize hfr : JH gl [.ptr b 0] = fr
 have hF : Fs gl [(0, .ptr b 0)] fr := by subst hfr; simp [Fs]
 simp only [Fs] at hF
 clear hfr
 obtain ⟨y, b1, hlo, hbc, hm, hv⟩ := hb
 have l1 := Jb (P := Tryz.prog) (off := 1) a91 z91 b1 rfl
 have ly := hm.len u91
 rw [Qo] at ly
 obtain ⟨m, hlm⟩ : ∃ m, l.length = m + 1 := ⟨l.length - 1, by have := List.length_pos_iff.2 hne; omega⟩
 obtain ⟨id, cap, q1, rfl, hu, hlow⟩ := Jp7 hm hlm hl
 have vq : veq 1000000000 (.ms id 0 (m + 1) 1 cap) (.ms id 0 (m + 1) 1 cap) = true := QA _ (Nat.le_of_ble_eq_true rfl)
 refine Ks_ (Ka_ (gs := [none]) fun K1 gK => ?_)
 simp (disch := omega) []
 refine gK _ _ (Ks_ (Ki_ (b := [0, 1, 3, 7, 15, 0, 32, 96, 224, 480, 1023, 2047]) fun K1 gK => ?_))
 simp (disch := omega) [hF, fb1, l1, ly, vq, hu]
 refine gK _ _ (Kq_ (gr _ _ ?_))
 simp [JM, Tryz.f40, hF]
 refine hR _ _ ?_
 exact ⟨⟨_, rfl, S.toList_ofList l⟩, hlow⟩
end Go.Vm
namespace Go.Vm
open Go Go.Proofs Go.Pa
attribute [local simp] OkG Qf Qs OkD J3 Qe JL Je Jk vop Jq Jx ev evs toV Jj Fr.dsTo Fr.glTo Fr.toNone Jg Jh Ji J7 QI Jc JF Jt V.undef JX JQ Qg J8 J9 Qa Qh Qi JT Qb Qj Qc JR Qk JE Jw Jy JD JG Ju JS JW Jb0 Jb1 Q6 Jbh JdL JdM fg0 fg1 fg2 fg3 fg4 fg5 fh0 fh1 JK Ql Jl Jal Jr
def JbL (c : UInt8) : List S → List UInt8
 | [] => []
 | s :: p => s.toList ++ p.flatMap fun s => c :: s.toList
theorem JlV {p : List S} (h : ¬ p = []) : Jb8 p = 47 :: JbL 47 p := by
 cases p with
 | nil => exact absurd rfl h
 | cons a b => rfl
theorem Jp8 {st : St} {x : V} {l : List S} (hx : Vw st x l) (h : 1 ≤ l.length) : ∃ y, Jaf Tryz.prog 23 x (some (.int .i64 1)) none = some y ∧ Vw st y (l.drop 1) := hx.tail (k := .i64) Tryz.underlying23 z9 h
theorem Jpc {n : Int} (h : 1 ≤ n) (h2 : n ≤ 1000) : ∃ q : Int, (∀ kk, Jf Tryz.prog kk .quo 3 (.int .i64 9223372036854775807) (.int .i64 n) = some (.int .i64 q)) ∧ 1 < q := by
 have e : (9223372036854775807 : Int).tdiv n = 9223372036854775807 / n := Int.tdiv_eq_ediv_of_nonneg (by decide)
 have h3 : 2 ≤ (9223372036854775807 : Int) / n := Int.le_ediv_of_mul_le (by omega) (by omega)
 have h4 : (9223372036854775807 : Int) / n ≤ 9223372036854775807 := Int.ediv_le_self _ (by decide)
 refine ⟨9223372036854775807 / n, fun kk => ?_, by omega⟩
 rw [JiL (by omega), e, Ju (by omega) (by omega)]
def JgZ (l : List S) : Nat := (l.map S.n).sum
theorem JlW {p : List S} {i : Nat} (h : i < p.length) : JgZ (p.take (i + 1)) = JgZ (p.take i) + p[i].n := by
 unfold JgZ
 rw [List.take_add_one, List.getElem?_eq_getElem h, List.map_append, List.sum_append]; simp
theorem Jh2 : ∀ (p : List S), (∀ s ∈ p, s.n ≤ 1000000) → JgZ p ≤ 1000000 * p.length
 | [], _ => Nat.le_refl _
 | s :: p, h => by
  have := Jh2 p fun t ht => h t (by simp [ht])
  have := h s (by simp)
  unfold JgZ at *
  simp only [List.map_cons, List.sum_cons, List.length_cons]; omega
theorem Jnb {p : List S} (hp : p.length ≤ 250) (hs : ∀ s ∈ p, s.n ≤ 300) : (JbL 47 p).length ≤ 76000 := by
 cases p with
 | nil => simp [JbL]
 | cons a r =>
  have h1 := JfS r fun s hm => hs s (by simp [hm])
  have h2 := hs a (by simp)
  simp only [JbL, List.length_append, S.len]
  simp only [List.length_cons] at hp
  omega
theorem JlX {c : UInt8} {p : List S} (hp : p.length ≤ 1000) (hs : ∀ s ∈ p, s.n ≤ 1000000) : (JbL c p).length ≤ 1001001000 := by
 cases p with
 | nil => simp [JbL]
 | cons a r =>
  have h1 := Jdf c r fun s hm => hs s (by simp [hm])
  have h2 := hs a (by simp)
  simp only [JbL, List.length_append, S.len]
  simp only [List.length_cons] at hp
  omega
theorem Jod {c : UInt8} {p : List S} (h : 2 ≤ p.length) : JbL c p ≠ [] := by
 match p, h with
 | a :: b :: r, _ => simp [JbL]
theorem Joe {c : UInt8} {p : List S} (h : 0 < p.length) : p[0].toList ++ ((p.drop 1).flatMap fun s => c :: s.toList) = JbL c p := by
 cases p with
 | nil => simp at h
 | cons a r => rfl
theorem JaD {c : UInt8} : QY Tryz.prog 9 (.str (S.ofList [c])) = some (.int .i64 1) := by simp only [QY, Tryz.underlying9]; rfl
variable [Memo] [NY] [NZ]
omit [NZ] in
set_option maxRecDepth 100000 in
theorem Jof (gl : Gl) (c : UInt8) (st : St) (x : V) (p : List S) (hx : Vw st x p) (hp : p.length ≤ 1000) (hs : ∀ s ∈ p, s.n ≤ 1000000) :
  Says Tryz.prog gl 39 [x, .str (S.ofList [c])] st (fun v st' => (∃ t : S, v = .str t ∧ t.toList = JbL c p) ∧ Keep st st') := by
 refine QD (NY.no _ rfl rfl rfl _ _) Tryz.func39 rfl (by kernel_rfl) fun R hR K gr gn => ?_
 generalize hfr : JH gl [x, .str (S.ofList [c])] = fr
 have hF : Fs gl [(0, x), (1, .str (S.ofList [c]))] fr := by subst hfr; simp [Fs]
 simp only [Fs] at hF
 clear hfr
 have lx := hx.len Tryz.underlying23
 refine Ks_ (Ka_ (gs := [none]) fun K1 gK => ?_)
 simp (disch := omega) []
 refine gK _ _ (Ks_ (Ks_ (Ka_ (gs := [none, none]) fun K1 gK => ?_)))
 simp (disch := omega) [hF, lx]
 refine gK _ _ ?_
 refine Kb_ fun K1 gn1 gx1 go1 => ?_
 have gr1 := fun fr st h => go1 AE.ret fr st trivial (gr fr st h)
 refine Ks_ (Ka_ (gs := [none, none]) fun K1 gK => ?_)
 simp (disch := omega) []
 refine gK _ _ ?_
 by_cases h0 : p = []
 ·
  refine Kt_ (by simp (disch := omega) [h0]) (Ks_ (Ka_ (gs := [none]) fun K1 gK => ?_))
  simp (disch := omega) [h0]
  refine gK _ _ (Kq_ (gr1 _ _ ?_))
  simp [JM, Tryz.f39, hF]
  refine hR _ _ ?_
  exact ⟨⟨⟨0, 0⟩, by rfl, by rw [h0]; rfl⟩, .refl _⟩
 ·
  refine Kf_ (by simp (disch := omega) [h0]) (Ks_ (Ka_ (gs := [none, none]) fun K1 gK => ?_))
  simp (disch := omega) [h0]
  refine gK _ _ ?_
  by_cases h1 : p.length = 1
  ·
   refine Kt_ (by simp (disch := omega) [h1]) ?_
   have hxi := hx.ix Tryz.underlying23 z9 (k := .i64) (a := 0) (by omega) (by omega)
   have hxd := hx.ld z9 a9 (show 0 < p.length by omega)
   refine Ks_ (Ka_ (gs := [none, none, none, none]) fun K1 gK => ?_)
   simp (disch := omega) [hF, h1, hxi, hxd]
   refine gK _ _ (Kq_ (gr1 _ _ ?_))
   simp [JM, Tryz.f39, hF]
   refine hR _ _ ?_
   exact ⟨⟨p[0], rfl, by (match p, h1 with | [a], _ => simp [JbL])⟩, .refl _⟩
  ·
   refine Kf_ (by simp (disch := omega) [h1]) ?_
   have h2 : 2 ≤ p.length := by (have : p.length ≠ 0 := fun h => h0 (List.length_eq_zero_iff.1 h)); omega
   obtain ⟨L, hL⟩ : ∃ L : Nat, p.length = L + 1 := ⟨p.length - 1, by omega⟩
   have hL' : (p.length : Int) - 1 = (L : Int) := by omega
   obtain ⟨q, hq, hq1⟩ := Jpc (n := (L : Int)) (by omega) (by omega)
   have hge : ∀ kk, Jf Tryz.prog kk .geq 3 (.int .i64 1) (.int .i64 q) = some (.bool false) := fun kk => by rw [Qr, decide_eq_false (by omega)]
   have hmul : ∀ kk, Jf Tryz.prog kk .mul 3 (.int .i64 1) (.int .i64 (L : Int)) = some (.int .i64 (L : Int)) := fun kk => by rw [Qd, Int.one_mul, Ju (by omega) (by omega)]
   refine Kk_ (gn1 _ _ (Ks_ (Ka_ (gs := [none]) fun K1 gK => ?_)))
   simp (disch := omega) [h1]
   refine gK _ _ (Ks_ (Ks_ (Ka_ (gs := [none, none, none]) fun K1 gK => ?_)))
   simp (disch := omega) [hF, JaD]
   refine gK _ _ (Kt_ (by simp (disch := omega) []) (Ks_ (Ks_ (Ka_ (gs := [none, none, none, none, none, none, none]) fun K1 gK => ?_))))
   simp (disch := omega) [hF, lx, JaD, hL', hq, hge]
   refine gK _ _ (Kf_ (by simp (disch := omega) []) (Kk_ (Ka_ (gs := [none, none, none, none, none, none, none, none, none]) fun K1 gK => ?_)))
   simp (disch := omega) [hF, lx, JaD, hL', hmul]
   refine gK _ _ (Ks_ (Ks_ (Ka_ (gs := [none, none, none]) fun K1 gK => ?_)))
   simp (disch := omega) [hF, lx]
   refine gK _ _ ?_
   refine Kl_ (p.length) (fun i fr st' => Fs gl [(0, x), (1, .str (S.ofList [c])), (5, .int .i64 ((L + JgZ (p.take i) : Nat) : Int)), (39, x), (40, .int .i64 (p.length : Int)), (41, .int .i64 (i : Int))] fr ∧ i ≤ p.length ∧ st = st') (0) (fun fr st' => Fs gl [(0, x), (1, .str (S.ofList [c])), (5, .int .i64 ((L + JgZ p : Nat) : Int))] fr ∧ st = st') ?_ ?_ ?_ ?_
   ·exact ⟨by simp [Fs, hF, JgZ],  Nat.zero_le _, rfl⟩
   ·rintro i fr st' ⟨_, hi, rfl⟩
    omega
   ·as_aux_lemma =>
    clear hF
    rintro i fr st' ⟨hF, hi, rfl⟩ K2 gk2 gx2 go2
    simp only [Fs] at hF
    refine Ks_ (Ka_ (gs := [none]) fun K1 gK => ?_)
    simp (disch := omega) [hF]
    refine gK _ _ (Ks_ ?_)
    by_cases hlt : i < p.length
    ·
     refine Kt_ (by simp (disch := omega) [hlt]) ?_
     have hxi := hx.ix Tryz.underlying23 z9 (k := .i64) (a := (i : Int)) (by omega) (by omega)
     have hxd := hx.ld z9 a9 hlt
     have hsn := hs _ (List.getElem_mem hlt)
     have hbd := Jh2 (p.take i) fun s hm => hs s (List.mem_of_mem_take hm)
     rw [List.length_take, Nat.min_eq_left hi] at hbd
     have ls := Jap Tryz.underlying9 (s := p[i])
     have hts := JlW hlt
     generalize JgZ (p.take i) = W0 at hF hbd hts
     have hno : ∀ kk, Jf Tryz.prog kk .gtr 3 (.int .i64 (p[i].n : Int)) (.int .i64 (9223372036854775807 - ((L : Int) + (W0 : Int)))) = some (.bool false) := fun kk => by rw [JcU, decide_eq_false (by omega)]
     refine Kk_ (Ks_ ?_)
     refine Kb_ fun K3 gn3 gx3 go3 => ?_
     refine Ks_ (Ka_ (gs := [none, none, none]) fun K1 gK => ?_)
     simp (disch := omega) [hF, hlt, hxi, hxd]
     refine gK _ _ (Ks_ (Ks_ (Ka_ (gs := [none, none, none, none, none]) fun K1 gK => ?_)))
     simp (disch := omega) [hF, ls, hno]
     refine gK _ _ (Kf_ (by simp (disch := omega) []) (Kk_ (Ka_ (gs := [none, none, none, none, none]) fun K1 gK => ?_)))
     simp (disch := omega) [hF, ls]
     refine gK _ _ (gn3 _ _ (Ka_ (gs := [none, none]) fun K1 gK => ?_))
     simp (disch := omega) [hF]
     refine gK _ _ ?_
     refine gk2 (i + 1) _ _ (by omega) ⟨by (rw [hts]; simp [Fs, hF]; omega),  by omega, rfl⟩
    ·
     refine Kf_ (by simp (disch := omega) [hlt]) ?_
     exact Kx_ (gx2 _ _ ⟨by (rw [List.take_of_length_le (by omega)] at hF; simp [Fs, hF]),  rfl⟩)
   ·as_aux_lemma =>
    clear hF
    rintro fr st' ⟨hF, rfl⟩
    simp only [Fs] at hF
    have hbd := Jh2 p hs
    generalize hW : JgZ p = W0 at hF hbd
    have hb0 : ({ ctr := st.ctr + 1, box := st.box.put st.ctr (.cells [.nilp, .nils] 64 true (some 0)) } : St) = st.new (.cells [.nilp, .nils] 64 true (some 0)) := rfl
    have kn := (Keep.refl st).new' (.cells [.nilp, .nils] 64 true (some 0))
    have bn : (st.new (.cells [.nilp, .nils] 64 true (some 0))).box.get st.ctr = some (.cells [.nilp, .nils] 64 true (some 0)) := by rw [Js, if_pos rfl]
    have cn : (st.new (.cells [.nilp, .nils] 64 true (some 0))).ctr = st.ctr + 1 := rfl
    generalize st.new (.cells [.nilp, .nils] 64 true (some 0)) = q1 at hb0 kn bn cn
    obtain ⟨v, q2, hcg, hbl, hc2, ho2⟩ := Says.use (Ji8 gl q1 st.ctr (L + W0) (by omega) (by omega) (by omega) bn)
    have k2 : Keep st q2 := ⟨by omega, fun i hi => by rw [ho2 i (by omega) (by omega)]; exact kn.box i hi⟩
    have hx2 := hx.keep k2
    have hxi := hx2.ix Tryz.underlying23 z9 (k := .i64) (a := 0) (by omega) (by omega)
    have hxd := hx2.ld z9 a9 (show 0 < p.length by omega)
    have hs0 := hs _ (List.getElem_mem (show 0 < p.length by omega))
    obtain ⟨v2, q3, hcw, hbl3, hl3⟩ := Says.use (Jcj gl q2 st.ctr st.ctr [] p[0] hbl (by simp; omega))
    have k3 : Keep st q3 := hl3.keep k2 (Nat.le_refl _)
    obtain ⟨y, hy, hvy0⟩ := Jp8 hx (by omega)
    have hvy := hvy0.keep k3
    have lly := hvy.len Tryz.underlying23
    have hdl : (p.drop 1).length = L := by simp; omega
    rw [hdl] at lly
    have hcg' : Jax Tryz.prog (ihCall (W Tryz.prog)) gl 65 [.ptr st.ctr 0, .int .i64 ((L : Int) + (W0 : Int))] q1 = .val v q2 := hcg
    refine Ks_ (Ka_ (gs := [none]) fun K1 gK => ?_)
    simp (disch := omega) [Jdt, hb0, JZ]
    refine gK _ _ (Ks_ (Ka_ (gs := [none, none]) fun K1 gK => ?_))
    simp (disch := omega) [hF, hcg']
    refine gK _ _ (Ks_ (Ka_ (gs := [none, none, none, none]) fun K1 gK => ?_))
    simp (disch := omega) [hF, hxi, hxd, hcw]
    refine gK _ _ (Ks_ (Ks_ (Ka_ (gs := [none, none, none, none]) fun K1 gK => ?_)))
    simp (disch := omega) [hF, hy, lly]
    refine gK _ _ ?_
    refine Kl_ (L) (fun i fr st' => Fs gl [(1, .str (S.ofList [c])), (8, .ptr st.ctr 0), (63, y), (64, .int .i64 (L : Int)), (65, .int .i64 (i : Int))] fr ∧ i ≤ L ∧ Keep st st' ∧ Bld st.ctr st.ctr st' (p[0].toList ++ ((p.drop 1).take i).flatMap fun s => c :: s.toList)) (0) (fun fr st' => Fs gl [(8, .ptr st.ctr 0)] fr ∧ Keep st st' ∧ Bld st.ctr st.ctr st' (JbL c p)) ?_ ?_ ?_ ?_
    ·exact ⟨by simp [Fs, hF], Nat.zero_le _, k3, by simpa using hbl3⟩
    ·rintro i fr st' ⟨_, hi, hk, hbl⟩
     omega
    ·as_aux_lemma =>
     clear hF
     rintro i fr st' ⟨hF, hi, hk, hbl⟩ K4 gk4 gx4 go4
     simp only [Fs] at hF
     refine Ks_ (Ka_ (gs := [none]) fun K1 gK => ?_)
     simp (disch := omega) [hF]
     refine gK _ _ (Ks_ ?_)
     by_cases hlt : i < L
     ·
      refine Kt_ (by simp (disch := omega) [hlt]) ?_
      have hlt' : i < (p.drop 1).length := by omega
      have hvy := hvy0.keep hk
      have hyi := hvy.ix Tryz.underlying23 z9 (k := .i64) (a := (i : Int)) (by omega) (by omega)
      have hyd := hvy.ld z9 a9 hlt'
      have hsi := hs _ (List.mem_of_mem_drop (List.getElem_mem hlt'))
      have hpl := Jdf c ((p.drop 1).take i) fun s hm => hs s (List.mem_of_mem_drop (List.mem_of_mem_take hm))
      have hs00 := hs _ (List.getElem_mem (show 0 < p.length by omega))
      have hcl : (p[0].toList ++ ((p.drop 1).take i).flatMap fun s => c :: s.toList).length ≤ 2000000000 := by
       rw [List.length_append, S.len]
       rw [List.length_take] at hpl
       omega
      generalize hacc : (p[0].toList ++ ((p.drop 1).take i).flatMap fun s => c :: s.toList) = acc at hbl hcl
      obtain ⟨v4, q5, hw1, hb5, hl5⟩ := Says.use (Jcj gl st' st.ctr st.ctr acc (S.ofList [c]) hbl (by rw [JP]; simp; omega))
      obtain ⟨v5, q6, hw2, hb6, hl6⟩ := Says.use (Jcj gl q5 st.ctr st.ctr _ (p.drop 1)[i] hb5 (by rw [List.length_append, S.toList_ofList]; simp; simp at hsi; omega))
      have k6 : Keep st q6 := (hl5.trans hl6).keep hk (Nat.le_refl _)
      have hnm : (p.drop 1)[i] = p[i + 1]'(by omega) := by simp
      rw [hnm] at hyd hw2
      refine Kk_ (Ks_ ?_)
      refine Kb_ fun K5 gn5 gx5 go5 => ?_
      refine Ks_ (Ka_ (gs := [none, none, none]) fun K1 gK => ?_)
      simp (disch := omega) [hF, hlt, hyi, hyd]
      refine gK _ _ (Ks_ (Ka_ (gs := [none, none]) fun K1 gK => ?_))
      simp (disch := omega) [hF, hw1]
      refine gK _ _ (Ka_ (gs := [none, none]) fun K1 gK => ?_)
      simp (disch := omega) [hF, hw2]
      refine gK _ _ (gn5 _ _ (Ka_ (gs := [none, none]) fun K1 gK => ?_))
      simp (disch := omega) [hF]
      refine gK _ _ ?_
      refine gk4 (i + 1) _ _ (by omega) ⟨by simp [Fs, hF], by omega, k6, by (rw [S.toList_ofList] at hb6; rw [JlA hlt', ← List.append_assoc, hacc]; simpa using hb6)⟩
     ·
      refine Kf_ (by simp (disch := omega) [hlt]) ?_
      exact Kx_ (gx4 _ _ ⟨by simp [Fs, hF, hlt], hk, by (rw [List.take_of_length_le (by omega), Joe (by omega)] at hbl; exact hbl)⟩)
    ·as_aux_lemma =>
     clear hF
     rintro fr st' ⟨hF, hk, hbl⟩
     simp only [Fs] at hF
     have hjl : (JbL c p).length ≤ 1000000000000 := Nat.le_trans (JlX hp hs) (by omega)
     have hjn := Jod (c := c) h2
     obtain ⟨v3, q4, hst, ⟨t, rfl, ht⟩, hl4⟩ := Says.use (Jhs gl st' st.ctr st.ctr (JbL c p) hbl hjl hjn)
     refine Ks_ (Ka_ (gs := [none, none]) fun K1 gK => ?_)
     simp (disch := omega) [hF, hst]
     refine gK _ _ (Kq_ (gr _ _ ?_))
     simp [JM, Tryz.f39, hF]
     refine hR _ _ ?_
     exact ⟨⟨t, rfl, ht⟩, hl4.keep hk (Nat.le_refl _)⟩
omit [NZ] in
set_option maxRecDepth 100000 in
theorem Jgs (gl : Gl) (st : St) (x : V) (p : List S) (hx : Vw st x p) (hp : p.length ≤ 250) (hs : ∀ s ∈ p, s.n ≤ 300) :
  Says Tryz.prog gl 45 [x] st (fun v st' => (∃ t : S, v = .str t ∧ t.toList = Jb8 p) ∧ Keep st st') := by
 refine QD (NY.no _ rfl rfl rfl _ _) Tryz.func45 rfl (by kernel_rfl) fun R hR K gr gn => ?_
 generalize hfr : JH gl [x] = fr
 have hF : Fs gl [(0, x)] fr := by subst hfr; simp [Fs]
 simp only [Fs] at hF
 clear hfr
 have lx := hx.len Tryz.underlying23
 refine Ks_ (Ka_ (gs := [none]) fun K1 gK => ?_)
 simp (disch := omega) []
 refine gK _ _ (Ks_ (Ks_ (Ka_ (gs := [none, none, none]) fun K1 gK => ?_)))
 simp (disch := omega) [hF, lx]
 refine gK _ _ ?_
 by_cases h0 : p = []
 ·
  refine Kt_ (by simp (disch := omega) [h0]) (Ks_ (Ka_ (gs := [none]) fun K1 gK => ?_))
  simp (disch := omega) [h0]
  refine gK _ _ (Kq_ (gr _ _ ?_))
  simp [JM, Tryz.f45, hF]
  refine hR _ _ ?_
  exact ⟨⟨S.ofList [47], rfl, by rw [h0]; rfl⟩, .refl _⟩
 ·
  refine Kf_ (by simp (disch := omega) [h0]) ?_
  obtain ⟨v, q1, hj, ⟨t, rfl, ht⟩, hk⟩ := Says.use (Jof gl 47 st x p hx (by omega) (fun s h => Nat.le_trans (hs s h) (by omega)))
  have htn : t.n ≤ 76000 := by
   have h1 := congrArg List.length ht
   rw [S.len] at h1
   have := Jnb hp hs
   omega
  have ad : ∀ kk, Jf Tryz.prog kk .add 9 (.str (S.ofList [47])) (.str t) = some (.str ((S.ofList [47]).app t)) := fun kk => QB (by rw [JP]; simp; omega)
  refine Kk_ (Ks_ (Ka_ (gs := [none, none, none, none]) fun K1 gK => ?_))
  simp (disch := omega) [hF, h0, hj, ad]
  refine gK _ _ (Kq_ (gr _ _ ?_))
  simp [JM, Tryz.f45, hF]
  refine hR _ _ ?_
  exact ⟨⟨_, rfl, by rw [S.toList_app, S.toList_ofList, ht, JlV h0]; rfl⟩, hk⟩
end Go.Vm
