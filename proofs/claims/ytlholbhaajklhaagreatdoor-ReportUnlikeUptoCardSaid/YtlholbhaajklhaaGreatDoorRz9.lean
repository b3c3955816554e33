/- Show, by the program. -/
import Derived.Test.YtlholbhaajklhaaGreatDoorRz8
namespace Go.Vm
open Go Go.Proofs Go.Pa
attribute [local simp] OkG Qf Qs OkD J3 Qe JL Je Jk vop Jq Jx ev evs toV Jj Fr.dsTo Fr.glTo Fr.toNone Jg Jh Ji J7 QI Jc JF Jt V.undef JX JQ Qg J8 J9 Qa Qh Qi JT Qb Qj Qc JR Qk JE Jw Jy JD JG Ju JS JW Jb0 Jb1 Q6 Jbh JdL JdM fg0 fg1 fg2 fg3 fg4 fg5 fh0 fh1 JK Ql Jl Jal Jr
theorem z41 : JU Tryz.prog 72 = some 1 := by kernel_rfl
theorem a41 : QM Tryz.prog 72 = some false := by kernel_rfl
theorem Jit : QZ Tryz.prog 72 = some .nilp := by kernel_rfl
theorem JcR : JaQ Tryz.prog 23 4 [(0, .str (S.ofList [92])), (1, .str (S.ofList [92, 92])), (2, .str (S.ofList [10])), (3, .str (S.ofList [92, 110]))] = some (oldsV, 9, 1) := by kernel_rfl
def Jd3 (l : List Fw) (s : List (List UInt8)) (y : Nat × List S) : List (List UInt8) × Bool := (s ++ [JfR l y], true)
theorem JeA {l : List Fw} : ∀ (L : List (Nat × List S)) (s : List (List UInt8)), Qm (Jd3 l) s L = (s ++ L.map (JfR l), false)
 | [], s => by simp [Qm]
 | y :: r, s => by
  have h : (Jd3 l s y).2 = true := rfl
  rw [Qm, h, JeA r]
  simp [Jd3]
theorem JfT {l : List Fw} {q : Nat × List S → Prop} : ∀ {L : List (Nat × List S)} {s : List (List UInt8)}, (∀ y ∈ L, q y) → s.length + L.length ≤ 60 → GoodRun (Jd3 l) (fun s y => q y ∧ s.length < 60) s L
 | [], _, _, _ => trivial
 | y :: r, s, h, hl => ⟨⟨h y (by simp), by simp at hl; omega⟩, fun _ => JfT (fun z hz => h z (by simp [hz])) (by simp at hl; simp [Jd3]; omega)⟩
structure ShowI where
 ri : RI
 out : V
 ts : List S
def ShowI.G (b1 b4 b5 r : Nat) (s : ShowI) (i : Nat) : Prop := i = b1 ∨ i = b4 ∨ i = b5 ∨ i = r ∨ s.ri.ids i ∨ vid s.out i
structure ShowI.J (x : V) (lo b1 b4 b5 r : Nat) (s : ShowI) (b : Bool) (st : St) : Prop where
 go : b = false
 lt1 : b1 < st.ctr
 lt4 : b4 < st.ctr
 lt5 : b5 < st.ctr
 x1 : st.box.get b1 = some (.cells [x] 22 true (some 0))
 x4 : st.box.get b4 = some (.cells [.ptr r 0] 72 true (some 0))
 x5 : st.box.get b5 = some (.cells [s.out] 23 true (some 0))
 rep : s.ri.is st r
 mine : Mine lo 9 st s.out (s.ts.map .str)
 a1 : ¬ vid s.out b1
 a4 : ¬ vid s.out b4
 a5 : ¬ vid s.out b5
 ar : ¬ vid s.out r
 ai : ∀ i, s.ri.ids i → ¬ vid s.out i ∧ i ≠ b1 ∧ i ≠ b4 ∧ i ≠ b5
 n5 : r ≠ b5 ∧ r ≠ b1 ∧ r ≠ b4 ∧ b1 ≠ b5 ∧ b4 ≠ b5
theorem RI.stab {st st' : St} {r : Nat} {ri : RI} (h : ri.is st r) (hc : st.ctr ≤ st'.ctr) (hr : st'.box.get r = st.box.get r) (hi : ∀ i, ri.ids i → st'.box.get i = st.box.get i) : ri.is st' r := by
 cases ri with
 | raw o => exact ⟨by rw [hr]; exact h.rb, by rw [hi o rfl]; exact h.ob, Nat.lt_of_lt_of_le h.rlt hc, Nat.lt_of_lt_of_le h.olt hc, h.ne⟩
 | bui t a b1 b2 =>
  obtain ⟨⟨q1, q2, q3⟩, q4⟩ := h
  exact ⟨⟨by rw [hr]; exact q1, Nat.lt_of_lt_of_le q2 hc, ⟨by rw [hi t (.inl rfl)]; exact q3.tb, by rw [hi a (.inr (.inl rfl))]; exact q3.ab, by rw [hi b1 (.inr (.inr (.inl rfl)))]; exact q3.b1b, by rw [hi b2 (.inr (.inr (.inr rfl)))]; exact q3.b2b,
   Nat.lt_of_lt_of_le q3.tlt hc, Nat.lt_of_lt_of_le q3.alt hc, Nat.lt_of_lt_of_le q3.lt1 hc, Nat.lt_of_lt_of_le q3.lt2 hc⟩⟩, q4⟩
theorem RI.lt {st : St} {r : Nat} {ri : RI} (h : ri.is st r) : r < st.ctr ∧ ∀ i, ri.ids i → i < st.ctr ∧ i ≠ r := by
 cases ri with
 | raw o => exact ⟨h.rlt, fun i hi => by rw [show i = o from hi]; exact ⟨h.olt, Ne.symm h.ne⟩⟩
 | bui t a b1 b2 =>
  obtain ⟨⟨q1, q2, q3⟩, q4, q5, q6, q7⟩ := h
  refine ⟨q2, fun i hi => ?_⟩
  rcases hi with rfl | rfl | rfl | rfl
  ·exact ⟨q3.tlt, Ne.symm q4⟩
  ·exact ⟨q3.alt, Ne.symm q5⟩
  ·exact ⟨q3.lt1, Ne.symm q6⟩
  ·exact ⟨q3.lt2, Ne.symm q7⟩
theorem ShowI.low {x : V} {lo b1 b4 b5 r : Nat} {s : ShowI} {b : Bool} {st : St} (h : ShowI.J x lo b1 b4 b5 r s b st) : ∀ i, s.G b1 b4 b5 r i → i < st.ctr := fun i hi => by
 rcases hi with rfl | rfl | rfl | rfl | hi | hi
 ·exact h.lt1
 ·exact h.lt4
 ·exact h.lt5
 ·exact (RI.lt h.rep).1
 ·exact ((RI.lt h.rep).2 i hi).1
 ·exact (h.mine.vid_lt hi).2
theorem ShowI.stable {x : V} {lo b1 b4 b5 r : Nat} {s : ShowI} {b : Bool} {st st' : St} (h : ShowI.J x lo b1 b4 b5 r s b st) (hc : st.ctr ≤ st'.ctr) (hb : ∀ i, s.G b1 b4 b5 r i → st'.box.get i = st.box.get i) : ShowI.J x lo b1 b4 b5 r s b st' :=
 ⟨h.go, Nat.lt_of_lt_of_le h.lt1 hc, Nat.lt_of_lt_of_le h.lt4 hc, Nat.lt_of_lt_of_le h.lt5 hc, by rw [hb _ (.inl rfl)]; exact h.x1, by rw [hb _ (.inr (.inl rfl))]; exact h.x4, by rw [hb _ (.inr (.inr (.inl rfl)))]; exact h.x5,
  RI.stab h.rep hc (hb _ (.inr (.inr (.inr (.inl rfl))))) fun i hi => hb i (.inr (.inr (.inr (.inr (.inl hi))))), h.mine.stab hc fun i hi => hb i (.inr (.inr (.inr (.inr (.inr hi))))), h.a1, h.a4, h.a5, h.ar, h.ai, h.n5⟩
theorem JkT {st : St} {x s : V} {l m : List V} {lo : Nat} (h : Mine lo 9 st x l) (hm : Ja4 st s m) (hlo : lo ≤ st.ctr) (hb : l.length + m.length ≤ 1000000) :
  ∃ y st', QR Tryz.prog st 23 x s = some (y, st') ∧ Low lo st st' ∧ Mine lo 9 st' y (l ++ m) ∧ (∀ i, vid y i → vid x i ∨ st.ctr ≤ i) ∧ ∀ i, i < st.ctr → ¬ vid x i → st'.box.get i = st.box.get i := by
 obtain ⟨i, hi, h1, h2⟩ := i9
 refine h.push2 Tryz.underlying23 hi h1 zs9 rfl hm hlo ?_ (by simp [JA]; omega)
 exact Nat.le_trans (Nat.mul_le_mul hb h2) (by simp [JA])
theorem JcS {l : List Fw} (hm : MayF l) (hs : ∀ f ∈ l, f.small) : ∀ m, m < l.length → ∀ s ∈ QW l m, s.n ≤ 300 := by
 intro m
 induction m using Nat.strongRecOn with
 | _ m ih =>
  intro h s hsm
  by_cases h0 : m = 0
  ·subst h0; simp [JcY] at hsm
  ·obtain ⟨u1, u2, _, u3, hmem⟩ := Ja9 hm (by omega) h
   rw [Jbi hm (by omega) h] at hsm
   rcases List.mem_append.1 hsm with hq | hq
   ·exact ih _ u1 u2 s hq
   ·obtain ⟨j, hj, hjk⟩ := List.getElem_of_mem hmem
    have hlen := JcX (hm.one _ u2)
    have hn := Jfs hm u2 hj (by omega)
    rw [hjk] at hn
    rw [List.mem_singleton.1 hq, hn]
    exact (hs _ (List.getElem_mem u2)).text _ (List.getElem_mem _)
theorem Mine.veq {lo : Nat} {e : TypeId} {st : St} {x : V} {l : List V} (h : Mine lo e st x l) : veq 1000000000 x x = true := by
 cases h with
 | nils => exact QA _ (Nat.le_of_ble_eq_true rfl)
 | ms => exact QA _ (Nat.le_of_ble_eq_true rfl)
variable [Memo] [NY] [NZ] [NO]
set_option maxHeartbeats 4000000 in
set_option maxRecDepth 100000 in
theorem Jpt (gl : Gl) {aL : List V} (hh : Hits gl aL) (hw : gl.get 2 = some wordsV) (st : St) (x : V) (l : List Fw) (hx : Row Fw.cells x l) (hok : ∀ f ∈ l, f.ok) (hs : ∀ f ∈ l, f.small) (hl : l.length ≤ 60) :
  Says Tryz.prog gl 26 [x] st (fun v st' => JpD st.ctr (Jfn l) l st' v ∧ Keep st st') := by
 refine Ji9 (NY.no _ rfl rfl rfl _ _) Tryz.func26 rfl (by kernel_rfl) fun R hR K gr gn => ?_
 generalize hfr : JH gl [x] = fr
 have hF : FsD [] gl [(0, x)] fr := by subst hfr; simp [FsD]
 simp only [FsD] at hF
 clear hfr
 obtain ⟨q1, hq1⟩ : ∃ q, q = st.new (.cells [x] 22 true (some 0)) := ⟨_, rfl⟩
 have kq1 : Keep st q1 := by rw [hq1]; exact (Keep.refl st).new' _
 have cq1 : q1.ctr = st.ctr + 1 := by rw [hq1]; rfl
 have bx1 : q1.box.get st.ctr = some (.cells [x] 22 true (some 0)) := by rw [hq1, Js, if_pos rfl]
 have hfold : ({ ctr := st.ctr + 1, box := st.box.put st.ctr (.cells [x] 22 true (some 0)) } : St) = q1 := by rw [hq1]; rfl
 clear hq1
 have hx1 := hx.cells1
 have hxo := hx.one
 have lx1 := Jb (P := Tryz.prog) (off := 0) a22 z22 bx1 rfl
 obtain ⟨v, s1, hc, rfl, hk1⟩ := Says.use (JgE gl hh q1 x l hx hok hs hl)
 have hm := JcW (l := l)
 generalize Jfn l = M at hc hm hR
 refine Ks_ (Ka_ (gs := [none, none, none]) fun K1 gK => ?_)
 simp (disch := omega) [hF, hx1, hxo, hfold]
 refine gK _ _ (Ks_ (Ks_ (Ka_ (gs := [none, none, none]) fun K1 gK => ?_)))
 simp (disch := omega) [hF, lx1, hc]
 refine gK _ _ ?_
 cases M with
 | true =>
  refine Kf_ (by simp (disch := omega) []) ?_
  have hmf := hm.1 rfl
  have cs1 := hk1.ctr
  have bx2 := (hk1.box st.ctr (by omega)).trans bx1
  obtain ⟨sA, hsA⟩ : ∃ q, q = s1.new (.cells oldsV 9 true (some 0)) := ⟨_, rfl⟩
  have kA : Keep s1 sA := by rw [hsA]; exact (Keep.refl s1).new' _
  have cA : sA.ctr = s1.ctr + 1 := by rw [hsA]; rfl
  have bA : sA.box.get s1.ctr = some (.cells oldsV 9 true (some 0)) := by rw [hsA, Js, if_pos rfl]
  have hfA : ({ ctr := s1.ctr + 1, box := s1.box.put s1.ctr (.cells oldsV 9 true (some 0)) } : St) = sA := by rw [hsA]; rfl
  clear hsA
  obtain ⟨v, s2, hcn, rfl, hraw, hk2⟩ := Says.use (Jhg gl sA s1.ctr (by omega) bA)
  have cs2 := hk2.ctr
  obtain ⟨r, hr⟩ : ∃ r, sA.ctr + 1 = r := ⟨_, rfl⟩
  rw [hr] at hcn hraw
  obtain ⟨b4, hb4⟩ : ∃ b, s2.ctr = b := ⟨_, rfl⟩
  have hrl := hraw.rlt
  have hol := hraw.olt
  obtain ⟨s3, hs3⟩ : ∃ q, q = (s2.new (.cells [.nilp] 72 true (some 0))).put b4 (.cells [.ptr r 0] 72 true (some 0)) := ⟨_, rfl⟩
  have w41 : Jaq Tryz.prog { ctr := s2.ctr + 1, box := s2.box.put s2.ctr (.cells [.nilp] 72 true (some 0)) } 72 (.ptr s2.ctr 0) (.ptr r 0) = some s3 := by
   have g : (s2.new (.cells [.nilp] 72 true (some 0))).box.get s2.ctr = some (.cells [.nilp] 72 true (some 0)) := by rw [Js, if_pos rfl]
   have := JdI z41 (v := .ptr r 0) rfl g
   rw [hs3, ← hb4]; exact this
  have k3 : Keep s2 s3 := by rw [hs3]; exact ((Keep.refl s2).new' _).put' (by omega) _
  have c3 : s3.ctr = b4 + 1 := by rw [hs3, JB, JY, hb4]
  have x43 : s3.box.get b4 = some (.cells [.ptr r 0] 72 true (some 0)) := by rw [hs3, Jm, if_pos rfl]
  rw [hb4] at w41
  clear hs3
  obtain ⟨s4, hs4⟩ : ∃ q, q = s3.new (.cells [.nils] 23 true (some 0)) := ⟨_, rfl⟩
  have hf4 : ({ ctr := s3.ctr + 1, box := s3.box.put s3.ctr (.cells [.nils] 23 true (some 0)) } : St) = s4 := by rw [hs4]; rfl
  have k4 : Keep s3 s4 := by rw [hs4]; exact (Keep.refl s3).new' _
  have c4 : s4.ctr = b4 + 2 := by rw [hs4, JY, c3]
  have x54 : s4.box.get (b4 + 1) = some (.cells [.nils] 23 true (some 0)) := by rw [hs4, Js, if_pos c3.symm]
  rw [c3] at hf4
  clear hs4
  have k14 : Keep s1 s4 := ((kA.trans hk2).trans k3).trans k4
  have bx4 := (k14.box st.ctr (by omega)).trans bx2
  have lx4 := Jb (P := Tryz.prog) (off := 0) a22 z22 bx4 rfl
  obtain ⟨v, s5, hcb, rfl, hs5⟩ := Says.use (Jgv gl s4 x (.int .i64 0) .nils hx.cells1 hx.one rfl rfl)
  have k5 : Keep s4 s5 := by rw [hs5]; exact ((Keep.refl s4).new' _).new' _
  have c5 : s5.ctr = s4.ctr + 2 := by rw [hs5]; rfl
  have bxx5 : s5.box.get (s4.ctr + 1) = some (.cells [.int .i64 0, .nils] 78 true (some 0)) := by rw [hs5, Js, if_pos (show s4.ctr + 1 = (s4.new (.cells [x] 22 true (some 0))).ctr from rfl)]
  have bll5 : s5.box.get s4.ctr = some (.cells [x] 22 true (some 0)) := by rw [hs5, Js, if_neg (by rw [JY]; omega), Js, if_pos rfl]
  clear hs5
  have ho1 : oldsV.all JZ = true := rfl
  have hcp : V.nilp.cells = [.nilp] := rfl
  refine Kk_ (Ks_ (Ka_ (gs := [none, none, none, none]) fun K1 gK => ?_))
  simp (disch := omega) [hF, ho1, hcp, hfA, hcn, hb4, Jit, w41, JcR, J2, JZ]
  refine gK _ _ (Ks_ (Ka_ (gs := [none]) fun K1 gK => ?_))
  simp (disch := omega) [Jan, c3, hf4, JZ]
  refine gK _ _ (Ks_ (Ks_ (Ka_ (gs := [none, none, none]) fun K1 gK => ?_)))
  simp (disch := omega) [hF, lx4, hcb, JcQ, J2]
  refine gK _ _ ?_
  refine Kb_ fun K1 gn1 gx1 go1 => ?_
  refine Kn_ (fun fr => FsD [] gl [(1, .ptr st.ctr 0), (4, .ptr b4 0), (5, .ptr (b4 + 1) 0), (14, .fn 69 [] [.ptr (s4.ctr + 1) 0, .ptr s4.ctr 0])] fr) (by simp [FsD, hF]) ?_
  clear hF
  rintro fr hF
  simp only [FsD] at hF
  have hProd := Jh3 gl x l hx hok hs hl hmf l.length 0 [] hmf.pos (Nat.zero_le _) (by omega)
  have k15 : Keep s1 s5 := k14.trans k5
  have hlow := fun (s : ShowI) (b : Bool) (st' : St) (h : ShowI.J x (b4 + 2) st.ctr b4 (b4 + 1) r s b st') => ShowI.low h
  have hstab := fun (s : ShowI) (b : Bool) (st' st2 : St) (h : ShowI.J x (b4 + 2) st.ctr b4 (b4 + 1) r s b st') => ShowI.stable (st' := st2) h
  have hraw5 : (RI.raw sA.ctr).is s5 r := RI.stab (ri := .raw sA.ctr) hraw (by have := k3.ctr; have := k4.ctr; have := k5.ctr; omega) (by rw [k5.box _ (by omega), k4.box _ (by omega), k3.box _ hrl]) (fun i hi => by rw [show i = sA.ctr from hi, k5.box _ (by omega), k4.box _ (by omega), k3.box _ hol])
  have hJ0 : ShowI.J x (b4 + 2) st.ctr b4 (b4 + 1) r ⟨.raw sA.ctr, .nils, []⟩ false s5 := ⟨rfl, by omega, by omega, by omega, by rw [k5.box _ (by omega)]; exact bx4, by rw [k5.box _ (by omega), k4.box _ (by omega)]; exact x43, by rw [k5.box _ (by omega)]; exact x54, hraw5, .nils, id, id, id, id,
   fun i hi => ⟨id, by have : i = sA.ctr := hi; omega, by have : i = sA.ctr := hi; omega, by have : i = sA.ctr := hi; omega⟩, by omega, by omega, by omega, by omega, by omega⟩
  have hG0 : ∀ i, s4.ctr ≤ i → ¬ ShowI.G st.ctr b4 (b4 + 1) r ⟨.raw sA.ctr, .nils, []⟩ i := fun i hi h => by
   rcases h with h | h | h | h | h | h
   ·omega
   ·omega
   ·omega
   ·omega
   ·have : i = sA.ctr := h; omega
   ·exact h
  refine Jht hProd (pre := fun s y => (y.1 < l.length ∧ y.2 = QW l y.1) ∧ s.length < 60) (obs := fun s => s.ts.map S.toList) (step := Jd3 l) (G := ShowI.G st.ctr b4 (b4 + 1) r) hlow hstab (s := ⟨.raw sA.ctr, .nils, []⟩) (JfT (fun y hy => ⟨(Jem hmf _ _ _ y hy).2 hmf.pos, Jcs hmf _ _ y hmf.pos hy⟩) (by rw [JfP hmf]; simp; exact hl)) (dst := 6) (xb := s4.ctr + 1) (lb := s4.ctr) (by simp [hF]) hJ0 (by omega) (by omega) (hG0 _ (by omega)) (hG0 _ (by omega)) bxx5 bll5 .nils trivial
   (fun fr' => fr'.at 1 = .ptr st.ctr 0 ∧ fr'.at 4 = .ptr b4 0 ∧ fr'.at 5 = .ptr (b4 + 1) 0 ∧ fr'.ds = [] ∧ fr'.gl = gl) (fun v => ⟨by rw [Jag, if_neg (by decide)]; exact hF.1, by rw [Jag, if_neg (by decide)]; exact hF.2.1, by rw [Jag, if_neg (by decide)]; exact hF.2.2.1, rfl, rfl⟩) (by simp [hF]) ?_ ?_ ?_ ?_
  ·as_aux_lemma =>
   intro id' fr' st' a pv' K hoa hop h15 hΦ hk
   obtain ⟨h1, h4, h5, hd, hg⟩ := hΦ
   have hF : fr'.at 15 = .agg [a, pv'] ∧ fr'.at 1 = .ptr st.ctr 0 ∧ fr'.at 4 = .ptr b4 0 ∧ fr'.at 5 = .ptr (b4 + 1) 0 ∧ fr'.ds = [] ∧ fr'.gl = gl := ⟨h15, h1, h4, h5, hd, hg⟩
   have ga : ({ ctr := st'.ctr + 1, box := st'.box.put st'.ctr (.cells [.int .i64 0, .nils] 78 true (some 0)) } : St).box.get st'.ctr = some (.cells [.int .i64 0, .nils] 78 true (some 0)) := by simp [Tr.get_put]
   have wa := Jgu hoa hop ga
   refine Ka_ (gs := [none, none]) fun K1 gK => ?_
   simp (disch := omega) [hF, Jpd, wa, JZ]
   refine gK _ _ ?_
   exact hk _ _ (by simp) ⟨by simp [hF], by simp [hF], by simp [hF], by simp [hF], by simp [hF]⟩ rfl (fun i hi => by rw [Jm, if_neg hi]; show (st'.box.put st'.ctr _).get i = _; rw [Tr.get_put, if_neg hi]) (by rw [Jm, if_pos rfl])
  ·as_aux_lemma =>
   intro id' fr' s st' y pv' nb K hΦ h6 hJ hnb hnG hnc hv' hap' hpl hyo hkt hkf
   obtain ⟨h1, h4, h5, hd, hg⟩ := hΦ
   obtain ⟨⟨hn, hyp⟩, hts60⟩ := hyo
   simp only [List.length_map] at hts60
   have hF : fr'.at 6 = .ptr nb 0 ∧ fr'.at 1 = .ptr st.ctr 0 ∧ fr'.at 4 = .ptr b4 0 ∧ fr'.at 5 = .ptr (b4 + 1) 0 ∧ fr'.ds = [] ∧ fr'.gl = gl := ⟨h6, h1, h4, h5, hd, hg⟩
   have hlt5 := hJ.lt5
   have hfo := hok _ (List.getElem_mem hn)
   have hfs := hs _ (List.getElem_mem hn)
   have hone := hmf.one _ hn
   have hps : ∀ s ∈ y.2, s.n ≤ 300 := by rw [hyp]; exact JcS hmf hs _ hn
   have hnr : nb ≠ r := fun h => hnG (.inr (.inr (.inr (.inl h))))
   have hn5 : nb ≠ b4 + 1 := fun h => hnG (.inr (.inr (.inl h)))
   have hno : ¬ vid s.out nb := fun h => hnG (.inr (.inr (.inr (.inr (.inr h)))))
   have hrl' := (RI.lt hJ.rep).1
   have hil' := (RI.lt hJ.rep).2
   obtain ⟨n5a, n5b, n5c, n5d, n5e⟩ := hJ.n5
   have kB : Keep st' { ctr := st'.ctr + 17, box := st'.box } := (Keep.refl st').tick 17
   obtain ⟨v, u4, hsh, ⟨pt, rfl, hpt⟩, k4'⟩ := Says.use (Jgs gl { ctr := st'.ctr + 17, box := st'.box } pv' y.2 (hv'.keep kB) (by omega) hps)
   have c4' : st'.ctr + 17 ≤ u4.ctr := k4'.ctr
   have g4 : ∀ i, i < st'.ctr → u4.box.get i = st'.box.get i := fun i hi => k4'.box i (by show i < st'.ctr + 17; omega)
   have hri4 : s.ri.is u4 r := RI.stab hJ.rep (by omega) (g4 r hrl') fun i hi => g4 i (hil' i hi).1
   have hptn : pt.n ≤ 20000 := by
    have h1 := congrArg List.length hpt
    rw [S.len] at h1
    by_cases h0 : y.2 = []
    ·rw [h0] at h1; simp [Jb8] at h1; omega
    ·rw [Jmn h0] at h1
     have := JfS y.2 hps
     omega
   obtain ⟨v, u5, hrp, ⟨et, rfl, het⟩, ri', hri', hids', c5', g5'⟩ := Says.use (Jf7 gl u4 r s.ri pt (by omega) hri4)
   have g5 : ∀ i, i < st'.ctr → i ≠ r → u5.box.get i = st'.box.get i := fun i hi hir => by rw [g5' i (by omega) hir]; exact g4 i hi
   obtain ⟨v, u6, hsy, ⟨sy, rfl, hsy2⟩, k6⟩ := Says.use (Jo8 gl hw u5 l[y.1] hfo hfs hone)
   have c6 := k6.ctr
   have g6 : ∀ i, i < st'.ctr → i ≠ r → u6.box.get i = st'.box.get i := fun i hi hir => by rw [k6.box i (by omega)]; exact g5 i hi hir
   have hetn : et.n ≤ 40000 := by
    have h1 := congrArg List.length het
    have h2 := JaF pt.toList
    rw [S.len] at h1 h2
    omega
   have hsyn : sy.n ≤ 200 := by
    have h1 := congrArg List.length hsy2
    rw [S.len] at h1
    have := Ji6 hone hfs
    omega
   have ad1 : ∀ kk, Jf Tryz.prog kk .add 9 (.str et) (.str (S.ofList [58, 32])) = some (.str (et.app (S.ofList [58, 32]))) := fun kk => QB (by rw [JP]; simp; omega)
   have ad2 : ∀ kk, Jf Tryz.prog kk .add 9 (.str (et.app (S.ofList [58, 32]))) (.str sy) = some (.str ((et.app (S.ofList [58, 32])).app sy)) := fun kk => QB (by rw [Jbk, JP]; simp; omega)
   obtain ⟨ln, hln⟩ : ∃ t, (et.app (S.ofList [58, 32])).app sy = t := ⟨_, rfl⟩
   have hlnl : ln.toList = JfR l y := by
    rw [← hln, S.toList_app, S.toList_app, S.toList_ofList, het, hpt, hsy2]
    simp only [JfR, List.getElem?_eq_getElem hn]
    rfl
   rw [hln] at ad2
   obtain ⟨sA2, hsA2⟩ : ∃ q : St, q = { ctr := u6.ctr, box := u6.box.put (st'.ctr + 14) (.cells [.str ln] 9 true (some 0)) } := ⟨_, rfl⟩
   have cA2 : sA2.ctr = u6.ctr := by rw [hsA2]
   have gA2 : sA2.box.get (st'.ctr + 14) = some (.cells [.str ln] 9 true (some 0)) := by rw [hsA2]; simp [Tr.get_put]
   have oA2 : ∀ i, i ≠ st'.ctr + 14 → sA2.box.get i = u6.box.get i := fun i hi => by rw [hsA2]; show (u6.box.put (st'.ctr + 14) _).get i = _; rw [Tr.get_put, if_neg hi]
   have hsA2' := hsA2.symm
   have gA : ∀ i, i < st'.ctr → i ≠ r → sA2.box.get i = st'.box.get i := fun i hi hir => by rw [oA2 i (by omega)]; exact g6 i hi hir
   have mA : Mine (b4 + 2) 9 sA2 s.out (s.ts.map .str) := hJ.mine.stab (by omega) fun i hi => gA i (hJ.mine.vid_lt hi).2 (by rintro rfl; exact hJ.ar hi)
   obtain ⟨z, u7, e7, low7, m7, v7, o7⟩ := JkT mA ((Jm9 (lo := 0) (by omega) (by omega) gA2).src rfl) (by omega) (by simp; omega)
   simp only [List.length_cons, List.length_nil] at e7
   have c7 := low7.ctr
   have g7 : ∀ i, i < st'.ctr → i ≠ r → ¬ vid s.out i → u7.box.get i = st'.box.get i := fun i hi hir hv => by rw [o7 i (by omega) hv]; exact gA i hi hir
   have x57 : u7.box.get (b4 + 1) = some (.cells [s.out] 23 true (some 0)) := by rw [g7 _ hJ.lt5 (Ne.symm n5a) hJ.a5]; exact hJ.x5
   have w7 := JdI z23 (v := z) m7.sim x57
   have hvz5 : ¬ vid z (b4 + 1) := fun h => (v7 _ h).elim hJ.a5 fun h2 => by have := hJ.lt5; omega
   have gz : ∀ i, i < st'.ctr → ¬ vid s.out i → ¬ vid z i := fun i hi h1 h2 => (v7 i h2).elim h1 fun h3 => by omega
   have hu8 : ∀ i, i ≠ b4 + 1 → (u7.put (b4 + 1) (.cells [z] 23 true (some 0))).box.get i = u7.box.get i := fun i hi => by rw [Jm, if_neg hi]
   have hrl5 := (RI.lt hri').1
   have hil5 := (RI.lt hri').2
   have hids2 : ∀ i, ri'.ids i → i ≠ st'.ctr + 14 ∧ ¬ vid s.out i ∧ i ≠ st.ctr ∧ i ≠ b4 ∧ i ≠ b4 + 1 := fun i hi => by
    rcases hids' i hi with h | h
    ·have := (hil' i h).1
     exact ⟨by omega, (hJ.ai i h).1, (hJ.ai i h).2.1, (hJ.ai i h).2.2.1, (hJ.ai i h).2.2.2⟩
    ·refine ⟨by omega, fun hv => ?_, by have := hJ.lt1; omega, by have := hJ.lt4; omega, by have := hJ.lt5; omega⟩
     have := (hJ.mine.vid_lt hv).2; omega
   have hoi : ∀ i, ri'.ids i → u7.box.get i = u5.box.get i := fun i hi => by
    obtain ⟨q1, q2, _⟩ := hids2 i hi
    rw [o7 i (by have := (hil5 i hi).1; omega) q2, oA2 i q1, k6.box i (hil5 i hi).1]
   have hor : u7.box.get r = u5.box.get r := by rw [o7 r (by omega) hJ.ar, oA2 r (by omega), k6.box r hrl5]
   have hri8 : ri'.is (u7.put (b4 + 1) (.cells [z] 23 true (some 0))) r := RI.stab hri' (by rw [JB]; omega) (by rw [hu8 r n5a]; exact hor) fun i hi => by rw [hu8 i (hids2 i hi).2.2.2.2]; exact hoi i hi
   have hJ8 : ShowI.J x (b4 + 2) st.ctr b4 (b4 + 1) r ⟨ri', z, s.ts ++ [ln]⟩ false (u7.put (b4 + 1) (.cells [z] 23 true (some 0))) := ⟨rfl, by rw [JB]; have := hJ.lt1; omega, by rw [JB]; have := hJ.lt4; omega, by rw [JB]; have := hJ.lt5; omega,
    by rw [hu8 _ n5d, g7 _ hJ.lt1 (Ne.symm n5b) hJ.a1]; exact hJ.x1, by rw [hu8 _ (by omega), g7 _ hJ.lt4 (Ne.symm n5c) hJ.a4]; exact hJ.x4, by rw [Jm, if_pos rfl], hri8,
    by
     have := m7.stab (st' := u7.put (b4 + 1) (.cells [z] 23 true (some 0))) (Nat.le_refl _) fun i hi => hu8 i (by rintro rfl; exact hvz5 hi)
     simpa using this,
    gz _ hJ.lt1 hJ.a1, gz _ hJ.lt4 hJ.a4, hvz5, gz _ hrl' hJ.ar, fun i hi => ⟨fun hz => by
     obtain ⟨q1, q2, _⟩ := hids2 i hi
     rcases v7 i hz with h | h
     ·exact q2 h
     ·have := (hil5 i hi).1; omega, (hids2 i hi).2.2.1, (hids2 i hi).2.2.2.1, (hids2 i hi).2.2.2.2⟩, hJ.n5⟩
   have hO8 : Outs (ShowI.G st.ctr b4 (b4 + 1) r s) st' (u7.put (b4 + 1) (.cells [z] 23 true (some 0))) := ⟨by rw [JB]; omega, fun i hi hG => by
    rw [hu8 i (fun h => hG (.inr (.inr (.inl h))))]
    exact g7 i hi (fun h => hG (.inr (.inr (.inr (.inl h))))) (fun h => hG (.inr (.inr (.inr (.inr (.inr h))))))⟩
   have hS8 : ∀ i, ShowI.G st.ctr b4 (b4 + 1) r ⟨ri', z, s.ts ++ [ln]⟩ i → ShowI.G st.ctr b4 (b4 + 1) r s i ∨ st'.ctr ≤ i := fun i hi => by
    rcases hi with h | h | h | h | h | h
    ·exact .inl (.inl h)
    ·exact .inl (.inr (.inl h))
    ·exact .inl (.inr (.inr (.inl h)))
    ·exact .inl (.inr (.inr (.inr (.inl h))))
    ·rcases hids' i h with q | q
     ·exact .inl (.inr (.inr (.inr (.inr (.inl q)))))
     ·exact .inr (by omega)
    ·rcases v7 i h with q | q
     ·exact .inl (.inr (.inr (.inr (.inr (.inr q)))))
     ·exact .inr (by omega)
   have L1 := Jb (P := Tryz.prog) (T := 23) (off := 1) a23 z23 hnb rfl
   have L0 := Jb (P := Tryz.prog) (T := 3) (off := 0) a3 z3 hnb rfl
   have L0a := Jb (P := Tryz.prog) (st := u4) (T := 3) (off := 0) a3 z3 (by rw [g4 nb hnc]; exact hnb) rfl
   have L0b := Jb (P := Tryz.prog) (st := u5) (T := 3) (off := 0) a3 z3 (by rw [g5 nb hnc hnr]; exact hnb) rfl
   have L4 := Jb (P := Tryz.prog) (T := 72) (off := 0) a41 z41 hJ.x4 rfl
   have L4a := Jb (P := Tryz.prog) (st := u4) (T := 72) (off := 0) a41 z41 (by rw [g4 _ hJ.lt4]; exact hJ.x4) rfl
   have L2 := Jb (P := Tryz.prog) (T := 22) (off := 0) a22 z22 hJ.x1 rfl
   have L2a := Jb (P := Tryz.prog) (st := u4) (T := 22) (off := 0) a22 z22 (by rw [g4 _ hJ.lt1]; exact hJ.x1) rfl
   have L2b := Jb (P := Tryz.prog) (st := u5) (T := 22) (off := 0) a22 z22 (by rw [g5 _ hJ.lt1 (Ne.symm n5b)]; exact hJ.x1) rfl
   have L5 := Jb (P := Tryz.prog) (T := 23) (off := 0) a23 z23 hJ.x5 rfl
   have L5a := Jb (P := Tryz.prog) (st := u4) (T := 23) (off := 0) a23 z23 (by rw [g4 _ hJ.lt5]; exact hJ.x5) rfl
   have L5b := Jb (P := Tryz.prog) (st := u5) (T := 23) (off := 0) a23 z23 (by rw [g5 _ hJ.lt5 (Ne.symm n5a)]; exact hJ.x5) rfl
   have L5c := Jb (P := Tryz.prog) (st := u6) (T := 23) (off := 0) a23 z23 (by rw [g6 _ hJ.lt5 (Ne.symm n5a)]; exact hJ.x5) rfl
   have hix : ∀ {k : IntKind} {a : Int}, 0 ≤ a → a < (l.length : Int) → Jd Tryz.prog 22 x (.int k a) = some (.cp (Jed Fw.cells l a.toNat)) := fun h0 h1 => hx.ix (fun f _ => f.len6) Tryz.underlying22 z38 h0 h1
   have vq1 := Jkd hv' (by omega)
   have vq2 := Jdm hx hok hs (by omega)
   have vq3 := hJ.mine.veq
   have vq4 : veq 1000000000 (.ptr r 0) (.ptr r 0) = true := QA _ (Nat.le_of_ble_eq_true rfl)
   have vq5 := JmT hfo hfs
   have hfl := fun st => flp (st := st) hn
   refine Kb_ fun K2 gn2 gx2 go2 => ?_
   refine Kj_ (b := [0, 0, 0, 4, 12, 30, 62, 0, 0, 256, 896, 1920, 4030, 8190, 16382, 32767, 65535]) (rs := [(2, 3), (1, 1), (5, 1), (7, 6), (0, 1), (6, 1), (13, 4)]) fun K1 gK => ?_
   simp (disch := omega) [hF, L1, L0, L0a, L0b, L4, L4a, L2, L2a, L2b, L5, L5a, L5b, L5c, hix, hfl, vq1, vq2, vq3, vq4, vq5, hsh, hrp, hsy, ad1, ad2, bs1, hsA2', e7, w7, J2, JZ, Tryz.underlying23]
   refine gK _ _ (gn2 _ _ ?_)
   exact hkt _ _ ⟨ri', z, s.ts ++ [ln]⟩ rfl (by simp [Jd3, hlnl]) hJ8 hO8 hS8
  ·as_aux_lemma =>
   intro st2 s6 hr2 ho6 hI6 hO6 hS6 hmk6 hc6
   obtain ⟨f1, f4, f5, f14, fds, fgl⟩ := hF
   generalize hfr6 : ({ fr with ds := .mark s5.ctr :: fr.ds } : Fr) = fr6
   have hF : fr6.at 5 = .ptr (b4 + 1) 0 ∧ fr6.ds = [.mark s5.ctr] ∧ fr6.gl = gl := by
    subst hfr6
    exact ⟨f5, by show Df.mark s5.ctr :: fr.ds = _; rw [fds], fgl⟩
   have lo6 := Jb (P := Tryz.prog) (T := 23) (off := 0) a23 z23 hI6.x5 rfl
   have cO6 := hO6.ctr
   have c15 := k15.ctr
   refine gn1 _ _ (Ks_ (Ka_ (gs := [none, none, none]) fun K1 gK => ?_))
   simp (disch := omega) [hF, lo6]
   refine gK _ _ (Kq_ (gr _ _ ?_))
   simp [JdA, Tryz.f26, hF, JC, hmk6]
   refine hR _ _ ⟨⟨s6.out, s6.ts, rfl, ?_, ?_⟩, ?_⟩
   ·rw [show s6.ts.map S.toList = _ from ho6]
    show (Qm (Jd3 l) ([] : List (List UInt8)) (QN l l.length 0 [])).1 = _
    rw [JeA]; rfl
   ·refine (hI6.mine.low (by omega)).stab (Nat.le_refl _) fun i hi => ?_
    rw [Jm, if_neg]
    rintro rfl
    rcases hS6 _ (.inr (.inr (.inr (.inr (.inr hi))))) with h | h
    ·exact hG0 _ (by omega) h
    ·omega
   ·refine ⟨by rw [JB]; have := kq1.ctr; omega, fun i hi => ?_⟩
    rw [Jm, if_neg (by omega), hO6.box i (by omega) ?_, k15.box i (by omega), hk1.box i (by omega)]
    ·exact kq1.box i hi
    ·rintro (h | h | h | h | h | h)
     ·omega
     ·omega
     ·omega
     ·omega
     ·have : i = sA.ctr := h; omega
     ·exact h
  ·as_aux_lemma =>
   intro st2 s6 hr2 ho6 hI6 hO6 hS6 hmk6 hc6
   exact absurd (show (Qm (Jd3 l) ([] : List (List UInt8)) (QN l l.length 0 [])).2 = true from hr2) (by rw [JeA]; simp)
 | false =>
  refine Kt_ (by simp (disch := omega) []) (Ks_ (Ka_ (gs := [none, none]) fun K1 gK => ?_))
  simp (disch := omega) []
  refine gK _ _ (Kq_ (gr _ _ ?_))
  simp [JdA, Tryz.f26, hF, JC]
  refine hR _ _ ?_
  exact ⟨⟨.nils, [], rfl, rfl, .nils⟩, kq1.trans hk1⟩
end Go.Vm
