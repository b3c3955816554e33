/- A word's text: by the program. -/
import Derived.Test.YtlmmgpmioaecnaaGreatDoorSz06
namespace Go.Vm
open Go Go.Proofs Go.Sy
set_option maxRecDepth 100000
attribute [local simp] OkG Ql QG OkD Qf J8 JT Jj Jo vop Js Jy ev evs toV Jn Fr.dsTo Fr.glTo Fr.toNone Jk Jl Jm J6 Qe Jc Jz Jw V.undef JU JO Qn Qo Qt Qp Qu Qv JN Qw Qx Qy J7 Qz Ji Jt JG Jq JI Jp JX J2 Jv JM JP JS JK
def ptB (p : Wp) : List UInt8 := cond p.v ([36, 123] ++ (p.t.toList ++ [125])) (cond p.q (wq p.t.toList) p.t.toList)
def wdT : Bool → List Wp → List UInt8
 | q, [] => cond q [34] []
 | q, p :: l => cond (p.q == q) [] [34] ++ (ptB p ++ wdT p.q l)
def wTxt (l : List Wp) : List UInt8 := cond (JbV (l.map Wp.key)) (wdT false l) []
theorem Jkf {p : Wp} (h : p.t.n ≤ 100000) : (ptB p).length ≤ 200005 := by
 have h1 := Jev p.t.toList
 rw [S.len] at h1
 unfold ptB
 cases p.v <;> cases p.q <;> simp [S.len] <;> omega
theorem JoB {l : List Wp} (h : JbV (l.map Wp.key) = true) : wdT false l ≠ [] := by
 cases l with
 | nil => simp [JbV] at h
 | cons p l =>
  unfold JbV at h
  simp only [List.map_cons, JcL, Bool.and_eq_true] at h
  have h1 : Q1 p.key true = true := h.2.1.1
  unfold Q1 Wp.key at h1
  unfold wdT ptB
  cases hv : p.v with
  | true => simp
  | false =>
   cases hq : p.q with
   | true => simp
   | false =>
    rw [hv, hq] at h1
    simp only [Bool.false_eq_true, if_false] at h1
    unfold JcN at h1
    simp only [Bool.and_eq_true, Bool.not_eq_true'] at h1
    have h2 := h1.1.1
    simp only [cond_false]
    cases ht : p.t.toList with
    | nil => rw [ht] at h2; cases h2
    | cons a b => simp
theorem RI.low {st : St} {r : Nat} {ri : RI} (h : ri.is st r) : r < st.ctr ∧ ∀ i, ri.ids i → i < st.ctr := by
 cases ri with
 | raw o =>
  refine ⟨h.rlt, fun i hi => ?_⟩
  rw [show i = o from hi]; exact h.olt
 | bui t a bx =>
  refine ⟨h.1.rlt, fun i hi => ?_⟩
  rcases hi with rfl | rfl | ⟨c, hc, hq, rfl⟩
  ·exact h.1.tb.tlt
  ·exact h.1.tb.alt
  ·exact (h.1.tb.bb c hc hq).2
theorem RI.stab {st st' : St} {r : Nat} {ri : RI} (h : ri.is st r) (hc : st.ctr ≤ st'.ctr) (hb : ∀ i, (i = r ∨ ri.ids i) → st'.box.get i = st.box.get i) : ri.is st' r := by
 cases ri with
 | raw o => exact ⟨by rw [hb r (.inl rfl)]; exact h.rb, by rw [hb o (.inr rfl)]; exact h.ob, Nat.lt_of_lt_of_le h.rlt hc, Nat.lt_of_lt_of_le h.olt hc, h.ne⟩
 | bui t a bx =>
  obtain ⟨⟨h1, h2, h3⟩, h4⟩ := h
  exact ⟨⟨by rw [hb r (.inl rfl)]; exact h1, Nat.lt_of_lt_of_le h2 hc, ⟨by rw [hb t (.inr (.inl rfl))]; exact h3.tb, by rw [hb a (.inr (.inr (.inl rfl)))]; exact h3.ab,
   fun c hc' hq => ⟨by rw [hb (bx c) (.inr (.inr (.inr ⟨c, hc', hq, rfl⟩)))]; exact (h3.bb c hc' hq).1, Nat.lt_of_lt_of_le (h3.bb c hc' hq).2 hc⟩, Nat.lt_of_lt_of_le h3.tlt hc, Nat.lt_of_lt_of_le h3.alt hc⟩⟩, h4⟩
structure ShS (s0 : St) (b qb rr : Nat) (st : St) (q : Bool) (acc : List UInt8) (F : Nat → Prop) (ri : RI) : Prop where
 k : Keep s0 st
 lb : s0.ctr ≤ b
 lq : s0.ctr ≤ qb
 lr : s0.ctr ≤ rr
 w : Wb b st F acc
 qv : st.box.get qb = some (.cells [.bool q] 4 true (some 0))
 qc : qb < st.ctr
 qf : ¬ F qb
 r : ri.is st rr
 d1 : ∀ i, F i → i ≠ rr ∧ ¬ ri.ids i
 d2 : rr ≠ qb
 d3 : ¬ ri.ids qb
section
variable {s0 : St} {b qb rr : Nat} {st st' : St} {q : Bool} {acc : List UInt8} {F : Nat → Prop} {ri : RI}
theorem ShS.keep (h : ShS s0 b qb rr st q acc F ri) (k : Keep st st') : ShS s0 b qb rr st' q acc F ri :=
 ⟨h.k.trans k, h.lb, h.lq, h.lr, h.w.keep k, by rw [k.box _ h.qc]; exact h.qv, Nat.lt_of_lt_of_le h.qc k.ctr, h.qf, RI.stab h.r k.ctr fun i hi => k.box i (by
  have := RI.low h.r
  rcases hi with rfl | hi
  ·exact this.1
  ·exact this.2 i hi), h.d1, h.d2, h.d3⟩
theorem ShS.go (h : ShS s0 b qb rr st q acc F ri) {F' : Nat → Prop} {acc' : List UInt8} {q' : Bool} (w : Wb b st' F' acc') (hq : st'.box.get qb = some (.cells [.bool q'] 4 true (some 0))) (o : Outs (fun i => F i ∨ i = qb) st st') (hf : ∀ i, F' i → F i ∨ st.ctr ≤ i) : ShS s0 b qb rr st' q' acc' F' ri := by
 have hl := RI.low h.r
 refine ⟨⟨Nat.le_trans h.k.ctr o.ctr, fun i hi => ?_⟩, h.lb, h.lq, h.lr, w, hq, Nat.lt_of_lt_of_le h.qc o.ctr, fun hh => (hf _ hh).elim h.qf fun h2 => by have := h.qc; omega, RI.stab h.r o.ctr fun i hi => ?_, fun i hi => ?_, h.d2, h.d3⟩
 ·have hi2 := Nat.lt_of_lt_of_le hi h.k.ctr
  rw [o.box i hi2 (fun hh => by
   rcases hh with hh | rfl
   ·have := (h.w.lt hh).1; have := h.lb; omega
   ·have := h.lq; omega), h.k.box i hi]
 ·refine o.box i (by rcases hi with rfl | hi; exact hl.1; exact hl.2 i hi) fun hh => ?_
  rcases hh with hh | rfl
  ·rcases hi with rfl | hi
   ·exact (h.d1 _ hh).1 rfl
   ·exact (h.d1 _ hh).2 hi
  ·rcases hi with hi | hi
   ·exact h.d2 hi.symm
   ·exact h.d3 hi
 ·rcases hf i hi with hh | hh
  ·exact h.d1 i hh
  ·exact ⟨by omega, fun h2 => by have := hl.2 i h2; omega⟩
theorem ShS.write (h : ShS s0 b qb rr st q acc F ri) {F' : Nat → Prop} {acc' : List UInt8} (w : Wb b st' F' acc') (g : Wgo F st F' st') : ShS s0 b qb rr st' q acc' F' ri :=
 h.go w (by rw [(g.box h.qc h.qf).1]; exact h.qv) ⟨g.o.ctr, fun i hi hf => g.o.box i hi fun hh => hf (.inl hh)⟩ g.f
theorem ShS.repl (h : ShS s0 b qb rr st q acc F ri) {ri' : RI} (r : ri'.is st' rr) (hids : ∀ i, ri'.ids i → ri.ids i ∨ st.ctr ≤ i) (hc : st.ctr ≤ st'.ctr) (hb : ∀ i, i < st.ctr → i ≠ rr → st'.box.get i = st.box.get i) : ShS s0 b qb rr st' q acc F ri' := by
 refine ⟨⟨Nat.le_trans h.k.ctr hc, fun i hi => ?_⟩, h.lb, h.lq, h.lr, h.w.stab hc fun i hi => hb i (h.w.lt hi).2 (h.d1 i hi).1, ?_, Nat.lt_of_lt_of_le h.qc hc, h.qf, r, fun i hi => ⟨(h.d1 i hi).1, fun hh => ?_⟩, h.d2, fun hh => ?_⟩
 ·have := h.lr
  have := h.k.ctr
  rw [hb i (by omega) (by omega), h.k.box i hi]
 ·rw [hb qb h.qc (Ne.symm h.d2)]; exact h.qv
 ·rcases hids i hh with h2 | h2
  ·exact (h.d1 i hi).2 h2
  ·have := (h.w.lt hi).2; omega
 ·rcases hids qb hh with h2 | h2
  ·exact h.d3 h2
  ·have := h.qc; omega
end
theorem Jic : Qc Tryz.prog 31 8 [(0, .str (S.ofList [36])), (1, .str (S.ofList [92, 36])), (2, .str (S.ofList [34])), (3, .str (S.ofList [92, 34])), (4, .str (S.ofList [92])), (5, .str (S.ofList [92, 92])), (6, .str (S.ofList [96])), (7, .str (S.ofList [92, 96]))] = some (oldsV, 9, 1) := by kernel_rfl
theorem zs4 : Q7 Tryz.prog 4 = some (.bool false) := by kernel_rfl
theorem z41 : JR Tryz.prog 41 = some 2 := by kernel_rfl
theorem a41 : QO Tryz.prog 41 = some true := by kernel_rfl
theorem z39 : JR Tryz.prog 39 = some 1 := by kernel_rfl
theorem a39 : QO Tryz.prog 39 = some false := by kernel_rfl
theorem JfQ {st : St} {id : Nat} {x y : V} {e : TypeId} {fl : Bool} {fz : Option Nat} (hb : st.box.get id = some (.cells [x, y] e fl fz)) : JB Tryz.prog st 41 (.ptr id 0) = some (.agg [x, y]) := by
 simp only [JB, hb, Q5, a41, z41]; rfl
def Jkg (l : List Wp) (v : V) : Prop := ∃ z : S, v = .tup [.str z, .int .i64 ((cond (JbV (l.map Wp.key)) 0 4 : Nat) : Int)] ∧ z.toList = wTxt l
variable [Memo] [NY] [NO]
set_option maxHeartbeats 8000000 in
set_option maxRecDepth 100000 in
theorem Jmn (gl : Gl) {aL : List V} (hh : Hits gl aL) (st : St) (w : V) (l : List Wp) (hx : Wv st w l) (hl : l.length ≤ 1000) (hs : ∀ p ∈ l, p.t.n ≤ 100000) :
  Says Tryz.prog gl 89 [w] st (fun v st' => Jkg l v ∧ Keep st st') := by
 refine Qb (NY.no _ rfl rfl rfl _ _) Tryz.func89 rfl (by kernel_rfl) fun R hR K gr gn => ?_
 generalize hfr : JC gl [w] = fr
 have hF : Fs gl [(0, w)] fr := by subst hfr; simp [Fs]
 simp only [Fs] at hF
 clear hfr
 obtain ⟨x, a, rfl, hx⟩ := hx
 have hxo := hx.one
 have kq := JL st [x, .int .i64 a] 41
 have bq := Jaf st [x, .int .i64 a] 41
 have hb := JZ st [x, .int .i64 a] 41
 have cq := Jae st [x, .int .i64 a] 41
 generalize QM st [x, .int .i64 a] 41 = q0 at kq bq hb cq
 have l0 := JfQ bq
 obtain ⟨v, q1, hc1, rfl, hk1⟩ := Says.use (Jho gl hh q0 (.agg [x, .int .i64 a]) l ⟨x, a, rfl, hx.keep kq⟩ (by omega) (fun p hp => by have := hs p hp; omega))
 have ho : ([x, .int .i64 a] : List V).all Ju = true := by simp only [List.all_cons, hxo]; rfl
 obtain ⟨M, hM⟩ : ∃ b, JbV (l.map Wp.key) = b := ⟨_, rfl⟩
 simp only [Jkg, wTxt] at hR
 rw [hM] at hc1 hR
 refine Ks_ (Ka_ (gs := [none, none, none]) fun K1 gK => ?_)
 simp (disch := omega) [hF, hb, ho]
 refine gK _ _ (Ks_ (Ks_ (Ka_ (gs := [none, none, none]) fun K1 gK => ?_)))
 simp (disch := omega) [hF, l0, hc1]
 refine gK _ _ ?_
 cases M with
 | true =>
  refine Kf_ (by simp (disch := omega) []) ?_
  obtain ⟨s2, hs2⟩ : ∃ s, s = q1.new (.cells oldsV 9 true (some 0)) := ⟨_, rfl⟩
  have k2 : Keep q1 s2 := by rw [hs2]; exact (Keep.refl q1).new' _
  have c2 : s2.ctr = q1.ctr + 1 := by rw [hs2]; rfl
  have g2 : s2.box.get q1.ctr = some (.cells oldsV 9 true (some 0)) := by rw [hs2, Q9, if_pos rfl]
  have hf2 : ({ ctr := q1.ctr + 1, box := q1.box.put q1.ctr (.cells oldsV 9 true (some 0)) } : St) = s2 := by rw [hs2]; rfl
  clear hs2
  obtain ⟨v, s3, hc3, rfl, hraw, hk3⟩ := Says.use (Jls gl s2 q1.ctr (by omega) g2)
  have hoo : oldsV.all Ju = true := rfl
  have ku1 := JL s3 [.nilp, .nils] 68
  have bu1 := Jaf s3 [.nilp, .nils] 68
  have eu1 := JZ s3 [.nilp, .nils] 68
  have cu1 := Jae s3 [.nilp, .nils] 68
  generalize QM s3 [.nilp, .nils] 68 = u1 at ku1 bu1 eu1 cu1
  have ku2 := JL u1 [.bool false] 4
  have bu2 := Jaf u1 [.bool false] 4
  have eu2 := JZ u1 [.bool false] 4
  have cu2 := Jae u1 [.bool false] 4
  generalize QM u1 [.bool false] 4 = u2 at ku2 bu2 eu2 cu2
  obtain ⟨u3, w3, bu3, cu3, ou3⟩ := Joy z4 bu2 (v := .bool false) rfl
  have hl3 := RI.low (ri := .raw s2.ctr) hraw
  have kst : Keep st s3 := kq.trans (hk1.trans (k2.trans hk3))
  have ks3 : Keep s3 u3 := ⟨by omega, fun i hi => by rw [ou3 i (by omega), ku2.box i (by omega), ku1.box i hi]⟩
  have hc0 := kst.ctr
  have hS : ShS st s3.ctr u1.ctr (s2.ctr + 1) u3 false [] (fun i => i = s3.ctr) (.raw s2.ctr) := by
   have c23 := hk3.ctr
   have cqq := (kq.trans hk1).ctr
   refine ⟨kst.trans ks3, by omega, by omega, by omega, ⟨by omega, .inl ⟨?_, rfl, fun i => Iff.rfl⟩⟩, bu3, by omega, by omega, ?_, fun i hi => ⟨?_, ?_⟩, by have := hl3.1; omega, ?_⟩
   ·rw [ou3 _ (by omega), ku2.box _ (by omega)]; exact bu1
   ·exact RI.stab (ri := .raw s2.ctr) hraw ks3.ctr fun i hi => ks3.box i (by rcases hi with rfl | hi; exact hl3.1; exact hl3.2 i hi)
   ·have := hl3.1; omega
   ·intro h; have := hl3.2 i h; omega
   ·intro h; have := hl3.2 _ h; omega
  have lw : JB Tryz.prog u3 39 (.ptr st.ctr 0) = some x := Jf (off := 0) a39 z39 (by
   rw [ks3.box st.ctr (by have := (hk1.trans (k2.trans hk3)).ctr; omega), (hk1.trans (k2.trans hk3)).box st.ctr (by omega)]; exact bq) rfl
  have hvl := hx.len
  refine Kk_ (Ks_ (Ka_ (gs := [none, none, none]) fun K1 gK => ?_))
  simp (disch := omega) [hF, Jic, hf2, hc3, hoo, Jx]
  refine gK _ _ (Ks_ (Ka_ (gs := [none]) fun K1 gK => ?_))
  simp (disch := omega) [Q8, eu1, Ju]
  refine gK _ _ (Ks_ (Ka_ (gs := [none, none]) fun K1 gK => ?_))
  simp (disch := omega) [JA, zs4, eu2, w3, Ju]
  refine gK _ _ (Ks_ (Ka_ (gs := [none, none]) fun K1 gK => ?_))
  simp (disch := omega) []
  refine gK _ _ (Ks_ (Ks_ (Ka_ (gs := [none, none, none, none]) fun K1 gK => ?_)))
  simp (disch := omega) [wf0, lw, hvl]
  refine gK _ _ ?_
  refine Kn_ (fun fr => Fs gl [(4, .ptr (s2.ctr + 1) 0), (5, .ptr s3.ctr 0), (7, .fn 109 [] [.ptr u1.ctr 0, .ptr s3.ctr 0]), (17, x), (18, .int .i64 (l.length : Int)), (19, .int .i64 0)] fr) (by simp [Fs, hF]) ?_
  clear hF
  rintro fr hF
  simp only [Fs] at hF
  refine Kl_ (l.length) (fun i fr st' => ∃ (q : Bool) (acc : List UInt8) (F : Nat → Prop) (ri : RI), Fs gl [(4, .ptr (s2.ctr + 1) 0), (5, .ptr s3.ctr 0), (7, .fn 109 [] [.ptr u1.ctr 0, .ptr s3.ctr 0]), (17, x), (18, .int .i64 (l.length : Int)), (19, .int .i64 (i : Int))] fr ∧ i ≤ l.length ∧ ShS st s3.ctr u1.ctr (s2.ctr + 1) st' q acc F ri ∧ wdT false l = acc ++ wdT q (l.drop i) ∧ acc.length ≤ 200010 * i) (0) (fun fr st' => ∃ (q : Bool) (acc : List UInt8) (F : Nat → Prop) (ri : RI), Fs gl [(5, .ptr s3.ctr 0), (7, .fn 109 [] [.ptr u1.ctr 0, .ptr s3.ctr 0])] fr ∧ ShS st s3.ctr u1.ctr (s2.ctr + 1) st' q acc F ri ∧ wdT false l = acc ++ cond q [34] [] ∧ acc.length ≤ 200010000) ?_ ?_ ?_ ?_
  ·exact ⟨false, [], (fun i => i = s3.ctr), .raw s2.ctr, by simp [Fs, hF], Nat.zero_le _, hS, rfl, Nat.le_refl _⟩
  ·rintro i fr st' ⟨q, acc, F, ri, _, hi, hS', hacc, halen⟩
   omega
  ·as_aux_lemma =>
   clear hF
   rintro i fr st' ⟨q, acc, F, ri, hF, hi, hS', hacc, halen⟩ K1 gk1 gx1 go1
   simp only [Fs] at hF
   refine Ks_ (Ka_ (gs := [none]) fun K1 gK => ?_)
   simp (disch := omega) [hF]
   refine gK _ _ (Ks_ ?_)
   by_cases hlt : i < l.length
   ·
    refine Kt_ (by simp (disch := omega) [hlt]) ?_
    obtain ⟨ad, had, hadp⟩ := (hx.keep hS'.k).get hlt
    obtain ⟨p, hp⟩ : ∃ p, l.getD i default = p := ⟨_, rfl⟩
    have hpm : p ∈ l := by rw [← hp, List.getD_eq_getElem?_getD, List.getElem?_eq_getElem hlt]; exact List.getElem_mem hlt
    have hpd : l.drop i = p :: l.drop (i + 1) := by rw [List.drop_eq_getElem_cons hlt, ← hp, List.getD_eq_getElem?_getD, List.getElem?_eq_getElem hlt]; rfl
    rw [hp] at hadp
    have hald : JB Tryz.prog st' 43 ad = some (.agg [.bool p.v, .str p.t, .bool p.q]) := hadp.loads.1
    have hns := QS st' p
    have nk := Q3 st' p
    have nb := Jai st' p
    have nc := JaE st' p
    generalize Q2 st' p = n1 at hns nk nb nc
    have hS1 := hS'.keep nk
    have hpl := Jkf (hs p hpm)
    rw [hpd, wdT] at hacc
    obtain ⟨v, n2, hc4, F2, hw2, hq2, ho2, hf2'⟩ := Says.use (Jkw gl n1 s3.ctr u1.ctr F acc q p.q hS1.w hS1.qv hS1.qc hS1.qf (by omega))
    have hS2 := hS1.go hw2 hq2 ho2 hf2'
    have hpF : ∀ {G : Nat → Prop} {s : St} {a' : List UInt8}, Wb s3.ctr s G a' → ¬ (st'.ctr < s.ctr) → ¬ G st'.ctr := fun h1 h2 h3 => h2 (h1.lt h3).2
    have nb2 : n2.box.get st'.ctr = some (.cells [.bool p.v, .str p.t, .bool p.q] 43 true (some 0)) := by
     rw [ho2.box _ nc (fun hh => by
      rcases hh with hh | hh
      ·have := (hS'.w.lt hh).2; omega
      ·have := hS'.qc; omega)]
     exact nb
    obtain ⟨pl1, pl2, pl3⟩ := QZ nb
    obtain ⟨ql1, ql2, ql3⟩ := QZ nb2
    have hpn := hs p hpm
    obtain ⟨acc2, ha2⟩ : ∃ a, acc ++ cond (p.q == q) [] [34] = a := ⟨_, rfl⟩
    have ha2l : acc2.length ≤ acc.length + 1 := by rw [← ha2, List.length_append]; cases (p.q == q) <;> simp
    rw [ha2] at hw2 hS2
    rw [← List.append_assoc, ha2, ← List.append_assoc] at hacc
    obtain ⟨B1, hB1⟩ : ∃ b, p.v = b := ⟨_, rfl⟩
    obtain ⟨B2, hB2⟩ : ∃ b, p.q = b := ⟨_, rfl⟩
    rw [hB1] at ql1
    rw [hB2] at ql3
    refine Kk_ (Ks_ ?_)
    refine Kb_ fun K2 gn2 gx2 go2 => ?_
    refine Ks_ (Ka_ (gs := [none, none, none, none]) fun K1 gK => ?_)
    simp (disch := omega) [hF, hlt, had, hald, JQ, hns, Ju]
    refine gK _ _ (Ks_ (Ka_ (gs := [none, none, none, none]) fun K1 gK => ?_))
    simp (disch := omega) [hF, pg2, pl3, hc4]
    refine gK _ _ ?_
    refine Kb_ fun K3 gn3 gx3 go3 => ?_
    refine Ks_ (Ka_ (gs := [none, none, none]) fun K1 gK => ?_)
    simp (disch := omega) [pg0, ql1]
    refine gK _ _ ?_
    have fin : ∀ (s3' : St) (F3 : Nat → Prop) (ri3 : RI) (l3 : List UInt8), l3 = ptB p → ShS st s3.ctr u1.ctr (s2.ctr + 1) s3' p.q (acc2 ++ l3) F3 ri3 → i + 1 ≤ l.length ∧ ShS st s3.ctr u1.ctr (s2.ctr + 1) s3' p.q (acc2 ++ l3) F3 ri3 ∧ wdT false l = (acc2 ++ l3) ++ wdT p.q (l.drop (i + 1)) ∧ (acc2 ++ l3).length ≤ 200010 * (i + 1) := fun s3' F3 ri3 l3 e h => by
     subst e
     refine ⟨by omega, h, hacc, ?_⟩
     rw [List.length_append]; omega
    cases B1 with
    | true =>
     refine Kt_ (by simp (disch := omega) []) ?_
     obtain ⟨z1, a1, b1, m1⟩ := QE (P := Tryz.prog) (T := 9) (S.ofList [36, 123]) p.t (by rw [Jb]; simp; omega)
     rw [Jb] at m1
     obtain ⟨z2, a2, b2, m2⟩ := QE (P := Tryz.prog) (T := 9) z1 (S.ofList [125]) (by rw [Jb]; simp at m1 ⊢; omega)
     rw [Jb] at m2
     have hz2 : z2.toList = ptB p := by rw [b2, b1, S.toList_ofList, S.toList_ofList]; unfold ptB; rw [hB1, cond_true]; simp
     obtain ⟨v, n3, hc5, F3, hw3, hg3⟩ := Says.use (JjC gl n2 s3.ctr F2 acc2 z2 hw2 (by simp at m1 m2; omega))
     refine Ka_ (gs := [none, none, none, none, none]) fun K1 gK => ?_
     simp (disch := omega) [hF, pg1, ql2, a1, a2, hc5]
     refine gK _ _ (gn3 _ _ (gn2 _ _ (Ka_ (gs := [none, none]) fun K1 gK => ?_)))
     simp (disch := omega) [hF]
     refine gK _ _ ?_
     refine gk1 (i + 1) _ _ (by omega) ⟨p.q, acc2 ++ z2.toList, F3, ri, by simp [Fs, hF], (fin _ _ _ _ hz2 (hS2.write hw3 hg3))⟩
    | false =>
     refine Kf_ (by simp (disch := omega) []) (Ks_ (Ka_ (gs := [none, none, none]) fun K1 gK => ?_))
     simp (disch := omega) [pg2, ql3]
     refine gK _ _ ?_
     cases B2 with
     | true =>
      refine Kt_ (by simp (disch := omega) []) ?_
      obtain ⟨v, n3, hc5, ⟨u, rfl, hu⟩, ri3, hr3, hids3, hct3, hbx3⟩ := Says.use (JjF gl n2 (s2.ctr + 1) ri p.t hpn hS2.r)
      have hS3 := hS2.repl hr3 hids3 hct3 hbx3
      have hun : u.n ≤ 200000 := by
       have h1 := congrArg List.length hu
       have h2 := Jev p.t.toList
       rw [S.len] at h1
       rw [S.len] at h2
       omega
      have hup : u.toList = ptB p := by unfold ptB; rw [hB1, hB2, hu]; rfl
      obtain ⟨v, n4, hc6, F4, hw4, hg4⟩ := Says.use (JjC gl n3 s3.ctr F2 acc2 u hS3.w (by omega))
      refine Ka_ (gs := [none, none, none, none, none]) fun K1 gK => ?_
      simp (disch := omega) [hF, pg1, ql2, hc5, hc6]
      refine gK _ _ (gn3 _ _ (gn2 _ _ (Ka_ (gs := [none, none]) fun K1 gK => ?_)))
      simp (disch := omega) [hF]
      refine gK _ _ ?_
      refine gk1 (i + 1) _ _ (by omega) ⟨p.q, acc2 ++ u.toList, F4, ri3, by simp [Fs, hF], (fin _ _ _ _ hup (hS3.write hw4 hg4))⟩
     | false =>
      refine Kf_ (by simp (disch := omega) []) ?_
      have htp : p.t.toList = ptB p := by unfold ptB; rw [hB1, hB2]; rfl
      obtain ⟨v, n3, hc5, F3, hw3, hg3⟩ := Says.use (JjC gl n2 s3.ctr F2 acc2 p.t hw2 (by omega))
      refine Ka_ (gs := [none, none, none]) fun K1 gK => ?_
      simp (disch := omega) [hF, pg1, ql2, hc5]
      refine gK _ _ (gn3 _ _ (gn2 _ _ (Ka_ (gs := [none, none]) fun K1 gK => ?_)))
      simp (disch := omega) [hF]
      refine gK _ _ ?_
      refine gk1 (i + 1) _ _ (by omega) ⟨p.q, acc2 ++ p.t.toList, F3, ri, by simp [Fs, hF], (fin _ _ _ _ htp (hS2.write hw3 hg3))⟩
   ·
    refine Kf_ (by simp (disch := omega) [hlt]) ?_
    exact Kx_ (gx1 _ _ ⟨q, acc, F, ri, by simp [Fs, hF, hlt], hS', by (rw [hacc, List.drop_of_length_le (by omega)]; rfl), by omega⟩)
  ·as_aux_lemma =>
   clear hF
   rintro fr st' ⟨q, acc, F, ri, hF, hS', hacc, halen⟩
   simp only [Fs] at hF
   obtain ⟨v, n2, hc4, F2, hw2, hq2, ho2, hf2'⟩ := Says.use (Jkw gl st' s3.ctr u1.ctr F acc q false hS'.w hS'.qv hS'.qc hS'.qf (by omega))
   have hS2 := hS'.go hw2 hq2 ho2 hf2'
   have hfe : acc ++ cond (false == q) [] [34] = wdT false l := by rw [hacc]; cases q <;> rfl
   rw [hfe] at hw2 hS2
   have hwl : (wdT false l).length ≤ 200010001 := by rw [hacc, List.length_append]; cases q <;> simp <;> omega
   obtain ⟨v, n3, hc5, ⟨z, rfl, hz⟩, hlow⟩ := Says.use (JjB gl n2 s3.ctr (wdT false l) (hw2.bldW (JoB hM)) (by omega))
   refine Ks_ (Ka_ (gs := [none, none]) fun K1 gK => ?_)
   simp (disch := omega) [hF, hc4]
   refine gK _ _ (Ks_ (Ka_ (gs := [none, none, none]) fun K1 gK => ?_))
   simp (disch := omega) [hF, hc5]
   refine gK _ _ (Kq_ (gr _ _ ?_))
   simp [JW, Tryz.f89, hF]
   refine hR _ _ ?_
   refine ⟨⟨z, rfl, by rw [hz]; rfl⟩, ⟨Nat.le_trans hS2.k.ctr hlow.ctr, fun i hi => ?_⟩⟩
   rw [hlow.box i (by have := hS2.lb; omega)]
   exact hS2.k.box i hi
 | false =>
  refine Kt_ (by simp (disch := omega) []) (Ks_ (Ka_ (gs := [none, none]) fun K1 gK => ?_))
  simp (disch := omega) []
  refine gK _ _ (Kq_ (gr _ _ ?_))
  simp [JW, Tryz.f89, hF]
  refine hR _ _ ?_
  exact ⟨⟨_, rfl, rfl⟩, kq.trans hk1⟩
end Go.Vm
namespace Go.Vm
open Go Go.Proofs Go.Sy
set_option maxRecDepth 100000
attribute [local simp] OkG Ql QG OkD Qf J8 JT Jj Jo vop Js Jy ev evs toV Jn Fr.dsTo Fr.glTo Fr.toNone Jk Jl Jm J6 Qe Jc Jz Jw V.undef JU JO Qn Qo Qt Qp Qu Qv JN Qw Qx Qy J7 Qz Ji Jt JG Jq JI Jp JX J2 Jv JM JP JS JK
def upB (q : Bool) (l : List UInt8) : List UInt8 := cond q (wq l) l
theorem JoC {q : Bool} {s : S} {k : Nat} (h : k < s.n) : upB q (s.toList.take (k + 1)) = upB q (s.toList.take k) ++ cond (q && isQ (UInt8.ofNat (s.at k))) [92, UInt8.ofNat (s.at k)] [UInt8.ofNat (s.at k)] := by
 cases q with
 | true =>
  show wq _ = wq _ ++ _
  rw [Jkv h, Bool.true_and]; rfl
 | false =>
  show s.toList.take (k + 1) = s.toList.take k ++ _
  rw [Jjd s h]; rfl
theorem JoD (c : Nat) (hc : c < 256) : isQ (UInt8.ofNat c) = ((S.ofList [36, 34, 92]).toList.elem (UInt8.ofNat c) || decide (c = 96)) := by
 rw [S.toList_ofList]
 have h : (UInt8.ofNat c == 96) = decide (c = 96) := by
  rw [Bool.eq_iff_iff, beq_iff_eq, decide_eq_true_iff]
  exact JbA hc (by decide : 96 < 256)
 unfold isQ
 rw [h]
 generalize UInt8.ofNat c = b
 cases h1 : (b == 34) <;> cases h2 : (b == 36) <;> cases h3 : (b == 92) <;> simp [List.elem, h1, h2, h3]
variable [Memo] [NY] [NO]
set_option maxHeartbeats 8000000 in
set_option maxRecDepth 100000 in
omit [NO] in
theorem Jmo (gl : Gl) (st : St) (w : V) (l : List Wp) (hx : Wv st w l) (hl : l.length ≤ 1000) (hs : ∀ p ∈ l, p.t.n ≤ 100000) :
  Says Tryz.prog gl 69 [w] st (fun v st' => Jkg l v ∧ Keep st st') := by
 refine Qb (NY.no _ rfl rfl rfl _ _) Tryz.func69 rfl (by kernel_rfl) fun R hR K gr gn => ?_
 generalize hfr : JC gl [w] = fr
 have hF : Fs gl [(0, w)] fr := by subst hfr; simp [Fs]
 simp only [Fs] at hF
 clear hfr
 obtain ⟨x, a, rfl, hx⟩ := hx
 have hxo := hx.one
 have kq := JL st [x, .int .i64 a] 41
 have bq := Jaf st [x, .int .i64 a] 41
 have hb := JZ st [x, .int .i64 a] 41
 have cq := Jae st [x, .int .i64 a] 41
 generalize QM st [x, .int .i64 a] 41 = q0 at kq bq hb cq
 have l0 := JfQ bq
 obtain ⟨v, q1, hc1, rfl, hk1⟩ := Says.use (Jg5 gl q0 (.agg [x, .int .i64 a]) l ⟨x, a, rfl, hx.keep kq⟩ (by omega) (fun p hp => by have := hs p hp; omega))
 have ho : ([x, .int .i64 a] : List V).all Ju = true := by simp only [List.all_cons, hxo]; rfl
 obtain ⟨M, hM⟩ : ∃ b, JbV (l.map Wp.key) = b := ⟨_, rfl⟩
 simp only [Jkg, wTxt] at hR
 rw [hM] at hc1 hR
 refine Ks_ (Ka_ (gs := [none, none, none]) fun K1 gK => ?_)
 simp (disch := omega) [hF, hb, ho]
 refine gK _ _ (Ks_ (Ks_ (Ka_ (gs := [none, none, none]) fun K1 gK => ?_)))
 simp (disch := omega) [hF, l0, hc1]
 refine gK _ _ ?_
 cases M with
 | true =>
  refine Kf_ (by simp (disch := omega) []) ?_
  have hvl := hx.len
  have lw : ∀ {s : St}, Keep q1 s → JB Tryz.prog s 39 (.ptr st.ctr 0) = some x := fun k => Jf (off := 0) a39 z39 (by rw [(hk1.trans k).box st.ctr (by omega)]; exact bq) rfl
  refine Kk_ (Ks_ (Ka_ (gs := [none]) fun K1 gK => ?_))
  simp (disch := omega) []
  refine gK _ _ (Ks_ (Ka_ (gs := [none]) fun K1 gK => ?_))
  simp (disch := omega) []
  refine gK _ _ (Ks_ (Ks_ (Ka_ (gs := [none]) fun K1 gK => ?_)))
  simp (disch := omega) []
  refine gK _ _ ?_
  refine Kl_ (l.length) (fun i fr st' => ∃ (q : Bool) (acc : S), Fs gl [(1, .ptr st.ctr 0), (4, .str acc), (5, .bool q), (6, .int .i64 (i : Int))] fr ∧ i ≤ l.length ∧ Keep q1 st' ∧ wdT false l = acc.toList ++ wdT q (l.drop i) ∧ acc.n ≤ 200010 * i) (0) (fun fr st' => ∃ (q : Bool) (acc : S), Fs gl [(4, .str acc), (5, .bool q)] fr ∧ Keep q1 st' ∧ wdT false l = acc.toList ++ cond q [34] [] ∧ acc.n ≤ 200010000) ?_ ?_ ?_ ?_
  ·exact ⟨false, ⟨0, 0⟩, by simp [Fs, hF, S.ofList, enc],  Nat.zero_le _, .refl _, rfl, Nat.le_refl _⟩
  ·rintro i fr st' ⟨q, acc, _, hi, hk, hacc, halen⟩
   omega
  ·as_aux_lemma =>
   clear hF
   rintro i fr st' ⟨q, acc, hF, hi, hk, hacc, halen⟩ K1 gk1 gx1 go1
   simp only [Fs] at hF
   have lwi := lw hk
   refine Ks_ (Ks_ (Ka_ (gs := [none, none, none, none, none]) fun K1 gK => ?_))
   simp (disch := omega) [hF, wf0, lwi, hvl]
   refine gK _ _ ?_
   by_cases hlt : i < l.length
   ·
    refine Kt_ (by simp (disch := omega) [hlt]) ?_
    obtain ⟨ad, had, hadp⟩ := (hx.keep (kq.trans (hk1.trans hk))).get hlt
    obtain ⟨p, hp⟩ : ∃ p, l.getD i default = p := ⟨_, rfl⟩
    have hpm : p ∈ l := by rw [← hp, List.getD_eq_getElem?_getD, List.getElem?_eq_getElem hlt]; exact List.getElem_mem hlt
    have hpd : l.drop i = p :: l.drop (i + 1) := by rw [List.drop_eq_getElem_cons hlt, ← hp, List.getD_eq_getElem?_getD, List.getElem?_eq_getElem hlt]; rfl
    rw [hp] at hadp
    have hald : JB Tryz.prog st' 43 ad = some (.agg [.bool p.v, .str p.t, .bool p.q]) := hadp.loads.1
    have hns := QS st' p
    have nk := Q3 st' p
    have nb := Jai st' p
    have nc := JaE st' p
    generalize Q2 st' p = n1 at hns nk nb nc
    obtain ⟨sid, hsid⟩ : ∃ n, st'.ctr = n := ⟨_, rfl⟩
    rw [hsid] at hns nb nc
    have k1n := hk.trans nk
    have hpl := Jkf (hs p hpm)
    rw [hpd, wdT] at hacc
    obtain ⟨pl1, pl2, pl3⟩ := QZ nb
    have hpn := hs p hpm
    obtain ⟨B1, hB1⟩ : ∃ b, p.v = b := ⟨_, rfl⟩
    obtain ⟨B2, hB2⟩ : ∃ b, p.q = b := ⟨_, rfl⟩
    rw [hB2] at hacc pl3
    rw [hB1] at pl1
    obtain ⟨E, hE⟩ : ∃ e, (B2 == q) = e := ⟨_, rfl⟩
    have eN := Joa B2 q
    rw [hE] at eN hacc
    have ad1 : ∀ kk, Je Tryz.prog kk .add 9 (.str acc) (.str (S.ofList [34])) = some (.str (acc.app (S.ofList [34]))) := fun kk => QQ (by rw [Jb]; simp; omega)
    rw [hB1] at hns hald
    rw [hB2] at hns hald
    refine Kk_ (Ks_ ?_)
    refine Kb_ fun K2 gn2 gx2 go2 => ?_
    refine Ks_ (Ka_ (gs := [none, none, none, none, none, none, none]) fun K1 gK => ?_)
    simp (disch := omega) [hF, wf0, lwi, hlt, hsid, had, hald, JQ, hns, Ju]
    refine gK _ _ (Ks_ (Ks_ (Ka_ (gs := [none, none, none, none]) fun K1 gK => ?_)))
    simp (disch := omega) [hF, pg2, pl3, eN]
    refine gK _ _ ?_
    refine Km_ (fun fr st' => ∃ (acc2 : S), Fs gl [(1, .ptr st.ctr 0), (4, .str acc2), (5, .bool B2), (6, .int .i64 (i : Int)), (7, .ptr sid 0)] fr ∧ n1 = st' ∧ wdT false l = acc2.toList ++ (ptB p ++ wdT B2 (l.drop (i + 1))) ∧ acc2.n ≤ acc.n + 1) ?_ ?_
    ·as_aux_lemma =>
     intro K3 gm3 go3
     cases E with
     | true =>
      refine Kf_ (by simp (disch := omega) []) ?_
      have hqe : B2 = q := by simpa using hE
      subst hqe
      refine Kk_ ?_
      exact gm3 _ _ ⟨acc, by simp [Fs, hF], rfl, by simpa using hacc, by omega⟩
     | false =>
      refine Kt_ (by simp (disch := omega) []) (Ks_ (Ka_ (gs := [none, none, none]) fun K1 gK => ?_))
      simp (disch := omega) [hF, ad1]
      refine gK _ _ (Ka_ (gs := [none, none, none]) fun K1 gK => ?_)
      simp (disch := omega) [pg2, pl3]
      refine gK _ _ ?_
      exact gm3 _ _ ⟨acc.app (S.ofList [34]), by simp [Fs, hF], rfl, by (rw [hacc, S.toList_app, S.toList_ofList]; simp), by (rw [Jby, Jb]; simp)⟩
    ·as_aux_lemma =>
     clear hF
     rintro fr st' ⟨acc2, hF, rfl, hacc2, hal2⟩
     simp only [Fs] at hF
     refine Ks_ (Ks_ (Ka_ (gs := [none, none]) fun K1 gK => ?_))
     simp (disch := omega) [hF, pg0, pl1]
     refine gK _ _ ?_
     cases B1 with
     | true =>
      refine Kt_ (by simp (disch := omega) []) ?_
      obtain ⟨z1, a1, b1, m1⟩ := QE (P := Tryz.prog) (T := 9) acc2 (S.ofList [36, 123]) (by rw [Jb]; simp; omega)
      rw [Jb] at m1
      simp only [List.length_cons, List.length_nil] at m1
      obtain ⟨z2, a2, b2, m2⟩ := QE (P := Tryz.prog) (T := 9) z1 p.t (by omega)
      obtain ⟨z3, a3, b3, m3⟩ := QE (P := Tryz.prog) (T := 9) z2 (S.ofList [125]) (by rw [Jb]; simp; omega)
      rw [Jb] at m3
      simp only [List.length_cons, List.length_nil] at m3
      refine Ks_ (Ka_ (gs := [none, none, none, none, none, none, none]) fun K1 gK => ?_)
      simp (disch := omega) [hF, pg1, pl2, a1, a2, a3]
      refine gK _ _ (Kx_ (gx2 _ _ (Ka_ (gs := [none, none, none]) fun K1 gK => ?_)))
      simp (disch := omega) [hF]
      refine gK _ _ ?_
      refine gk1 (i + 1) _ _ (by omega) ⟨B2, z3, by simp [Fs, hF], by omega, k1n, by (rw [hacc2, b3, b2, b1, S.toList_ofList, S.toList_ofList]; unfold ptB; rw [hB1, cond_true]; simp), by omega⟩
     | false =>
      refine Kf_ (by simp (disch := omega) []) ?_
      have hpt : ptB p = upB B2 p.t.toList := by unfold ptB upB; rw [hB1, hB2]; rfl
      have lp := QC Tryz.underlying9 (s := p.t)
      refine Kk_ (Ks_ (Ka_ (gs := [none]) fun K1 gK => ?_))
      simp (disch := omega) []
      refine gK _ _ ?_
      refine Kl_ (p.t.n) (fun k fr st' => ∃ (acc3 : S), Fs gl [(1, .ptr st.ctr 0), (4, .str acc3), (5, .bool B2), (6, .int .i64 (i : Int)), (7, .ptr sid 0), (8, .int .i64 (k : Int))] fr ∧ k ≤ p.t.n ∧ n1 = st' ∧ acc3.toList = acc2.toList ++ upB B2 (p.t.toList.take k) ∧ acc3.n ≤ acc2.n + 2 * k) (0) (fun fr st' => ∃ (acc3 : S), Fs gl [(1, .ptr st.ctr 0), (4, .str acc3), (5, .bool B2), (6, .int .i64 (i : Int))] fr ∧ n1 = st' ∧ acc3.toList = acc2.toList ++ ptB p ∧ acc3.n ≤ acc2.n + 200000) ?_ ?_ ?_ ?_
      ·exact ⟨acc2, by simp [Fs, hF], Nat.zero_le _, rfl, by (cases B2 <;> simp [upB, wq]), by omega⟩
      ·rintro k fr st' ⟨acc3, _, hk3, rfl, hacc3, hal3⟩
       omega
      ·as_aux_lemma =>
       clear hF
       rintro k fr st' ⟨acc3, hF, hk3, rfl, hacc3, hal3⟩ K4 gk4 gx4 go4
       simp only [Fs] at hF
       refine Ks_ (Ks_ (Ka_ (gs := [none, none, none, none, none]) fun K1 gK => ?_))
       simp (disch := omega) [hF, pg1, pl2, lp]
       refine gK _ _ ?_
       by_cases hkt : k < p.t.n
       ·
        refine Kt_ (by simp (disch := omega) [hkt]) ?_
        have hix := JY (P := Tryz.prog) (k := .i64) Tryz.underlying9 hkt
        have hcl := S.at_lt p.t k
        have hin0 : Says Tryz.prog gl 97 [.int .u8 (p.t.at k : Int), .str (S.ofList [36, 34, 92])] n1 (fun v s' => v = .bool ((S.ofList [36, 34, 92]).toList.elem (UInt8.ofNat (p.t.at k))) ∧ Sm n1 s') := ⟨_, _, Jn4 gl n1 (p.t.at k) hcl (S.ofList [36, 34, 92]) (by rw [Jb]; simp), rfl, rfl⟩
        obtain ⟨v, s9, hin, rfl, hs9⟩ := Says.use hin0 (by kernel_rfl)
        rw [show s9 = n1 from hs9] at hin
        clear hs9 hin0
        have hup := JoC (q := B2) hkt
        have hQ := JoD (p.t.at k) hcl
        obtain ⟨C, hC⟩ : ∃ c, decide (p.t.at k = 96) = c := ⟨_, rfl⟩
        obtain ⟨I, hI⟩ : ∃ c, (S.ofList [36, 34, 92]).toList.elem (UInt8.ofNat (p.t.at k)) = c := ⟨_, rfl⟩
        have e96 : ∀ kk, Je Tryz.prog kk .eql 5 (.int .u8 (p.t.at k : Int)) (.int .u8 96) = some (.bool C) := fun kk => by rw [← hC]; exact JN
        rw [hI] at hin hQ
        rw [hC] at hQ
        rw [hQ] at hup
        have hsl : QA Tryz.prog 9 (.str p.t) (some (.int .i64 (k : Int))) (some (.int .i64 ((k : Int) + 1))) = some (.str (p.t.cut k (k + 1))) := JhI (hi := k + 1) Tryz.underlying9 (by omega) (by omega)
        have hct := Jox hkt
        have ad2 : ∀ kk, Je Tryz.prog kk .add 9 (.str acc3) (.str (S.ofList [92])) = some (.str (acc3.app (S.ofList [92]))) := fun kk => QQ (by rw [Jb]; simp; omega)
        have ad3 : ∀ kk, Je Tryz.prog kk .add 9 (.str acc3) (.str (p.t.cut k (k + 1))) = some (.str (acc3.app (p.t.cut k (k + 1)))) := fun kk => QQ (by rw [JhJ]; omega)
        have ad4 : ∀ kk, Je Tryz.prog kk .add 9 (.str (acc3.app (S.ofList [92]))) (.str (p.t.cut k (k + 1))) = some (.str ((acc3.app (S.ofList [92])).app (p.t.cut k (k + 1)))) := fun kk => QQ (by rw [JhJ, Jby, Jb]; simp; omega)
        have esc1 : (B2 && (I || C)) = true → k + 1 ≤ p.t.n ∧ n1 = n1 ∧ ((acc3.app (S.ofList [92])).app (p.t.cut k (k + 1))).toList = acc2.toList ++ upB B2 (p.t.toList.take (k + 1)) ∧ ((acc3.app (S.ofList [92])).app (p.t.cut k (k + 1))).n ≤ acc2.n + 2 * (k + 1) := fun h => ⟨by omega, rfl, by rw [S.toList_app, S.toList_app, S.toList_ofList, hct, hacc3, hup, h]; simp, by rw [Jby, Jby, Jb, JhJ]; simp; omega⟩
        have esc0 : (B2 && (I || C)) = false → k + 1 ≤ p.t.n ∧ n1 = n1 ∧ (acc3.app (p.t.cut k (k + 1))).toList = acc2.toList ++ upB B2 (p.t.toList.take (k + 1)) ∧ (acc3.app (p.t.cut k (k + 1))).n ≤ acc2.n + 2 * (k + 1) := fun h => ⟨by omega, rfl, by rw [S.toList_app, hct, hacc3, hup, h]; simp, by rw [Jby, JhJ]; omega⟩
        clear hup hQ
        cases B2 with
        | true =>
         cases I with
         | true =>
          refine Kk_ (Ks_ ?_)
          refine Kb_ fun K5 gn5 gx5 go5 => ?_
          refine Ks_ (Ks_ (Ka_ (gs := [none, none, none, some (some 49, true), some (some 49, true), some (some 49, true), some (some 49, true), some (some 49, true), some (some 49, true), some (some 55, false), some (some 55, false), some (some 55, false), some (some 55, false), some (some 55, false), some (some 49, true), none]) fun K1 gK => ?_))
          simp (disch := omega) [hF, pg1, pg2, pl2, pl3, hkt, hix, hin]
          refine gK _ _ (Kt_ (by simp (disch := omega) []) (Ka_ (gs := [none, none, none]) fun K1 gK => ?_))
          simp (disch := omega) [hF, ad2]
          refine gK _ _ (Ka_ (gs := [none, none, none, none, none, none, none, none, none]) fun K1 gK => ?_)
          simp (disch := omega) [hF, pg1, pl2, hsl, ad4]
          refine gK _ _ (gn5 _ _ (Ka_ (gs := [none, none, none]) fun K1 gK => ?_))
          simp (disch := omega) [hF]
          refine gK _ _ ?_
          refine gk4 (k + 1) _ _ (by omega) ⟨(acc3.app (S.ofList [92])).app (p.t.cut k (k + 1)), by simp [Fs, hF], (esc1 rfl)⟩
         | false =>
          cases C with
          | true =>
           refine Kk_ (Ks_ ?_)
           refine Kb_ fun K6 gn6 gx6 go6 => ?_
           refine Ks_ (Ks_ (Ka_ (gs := [none, none, none, some (some 49, true), some (some 49, true), some (some 49, true), some (some 49, true), some (some 49, true), some (some 49, true), some (some 55, false), some (some 55, false), some (some 55, false), some (some 55, false), some (some 55, false), some (some 49, true), none]) fun K1 gK => ?_))
           simp (disch := omega) [hF, pg1, pg2, pl2, pl3, hkt, hix, hin, e96]
           refine gK _ _ (Kt_ (by simp (disch := omega) []) (Ka_ (gs := [none, none, none]) fun K1 gK => ?_))
           simp (disch := omega) [hF, ad2]
           refine gK _ _ (Ka_ (gs := [none, none, none, none, none, none, none, none, none]) fun K1 gK => ?_)
           simp (disch := omega) [hF, pg1, pl2, hsl, ad4]
           refine gK _ _ (gn6 _ _ (Ka_ (gs := [none, none, none]) fun K1 gK => ?_))
           simp (disch := omega) [hF]
           refine gK _ _ ?_
           refine gk4 (k + 1) _ _ (by omega) ⟨(acc3.app (S.ofList [92])).app (p.t.cut k (k + 1)), by simp [Fs, hF], (esc1 rfl)⟩
          | false =>
           refine Kk_ (Ks_ ?_)
           refine Kb_ fun K7 gn7 gx7 go7 => ?_
           refine Ks_ (Ks_ (Ka_ (gs := [none, none, none, some (some 49, true), some (some 49, true), some (some 49, true), some (some 49, true), some (some 49, true), some (some 49, true), some (some 55, false), some (some 55, false), some (some 55, false), some (some 55, false), some (some 55, false), some (some 49, true), none]) fun K1 gK => ?_))
           simp (disch := omega) [hF, pg1, pg2, pl2, pl3, hkt, hix, hin, e96]
           refine gK _ _ (Kf_ (by simp (disch := omega) []) (Kk_ (Ka_ (gs := [none, none, none, none, none, none, none, none, none]) fun K1 gK => ?_)))
           simp (disch := omega) [hF, pg1, pl2, hsl, ad3]
           refine gK _ _ (gn7 _ _ (Ka_ (gs := [none, none, none]) fun K1 gK => ?_))
           simp (disch := omega) [hF]
           refine gK _ _ ?_
           refine gk4 (k + 1) _ _ (by omega) ⟨acc3.app (p.t.cut k (k + 1)), by simp [Fs, hF], (esc0 rfl)⟩
        | false =>
         refine Kk_ (Ks_ ?_)
         refine Kb_ fun K8 gn8 gx8 go8 => ?_
         refine Ks_ (Ks_ (Ka_ (gs := [none, none, none, some (some 49, true), some (some 49, true), some (some 49, true), some (some 49, true), some (some 49, true), some (some 49, true), some (some 55, false), some (some 55, false), some (some 55, false), some (some 55, false), some (some 55, false), some (some 49, true), none]) fun K1 gK => ?_))
         simp (disch := omega) [hF, pg2, pl3, hkt]
         refine gK _ _ (Kf_ (by simp (disch := omega) []) (Kk_ (Ka_ (gs := [none, none, none, none, none, none, none, none, none]) fun K1 gK => ?_)))
         simp (disch := omega) [hF, pg1, pl2, hsl, ad3]
         refine gK _ _ (gn8 _ _ (Ka_ (gs := [none, none, none]) fun K1 gK => ?_))
         simp (disch := omega) [hF]
         refine gK _ _ ?_
         refine gk4 (k + 1) _ _ (by omega) ⟨acc3.app (p.t.cut k (k + 1)), by simp [Fs, hF], (esc0 rfl)⟩
       ·
        refine Kf_ (by simp (disch := omega) [hkt]) ?_
        exact Kx_ (gx4 _ _ ⟨acc3, by simp [Fs, hF, hkt], rfl, by (rw [hacc3, hpt, List.take_of_length_le (by rw [S.len]; omega)]), by omega⟩)
      ·as_aux_lemma =>
       clear hF
       rintro fr st' ⟨acc3, hF, rfl, hacc3, hal3⟩
       simp only [Fs] at hF
       refine gn2 _ _ (Ka_ (gs := [none, none, none]) fun K1 gK => ?_)
       simp (disch := omega) [hF]
       refine gK _ _ ?_
       refine gk1 (i + 1) _ _ (by omega) ⟨B2, acc3, by simp [Fs, hF], by omega, k1n, by (rw [hacc2, hacc3]; simp), by omega⟩
   ·
    refine Kf_ (by simp (disch := omega) [hlt]) ?_
    exact Kx_ (gx1 _ _ ⟨q, acc, by simp [Fs, hF, hlt], hk, by (rw [hacc, List.drop_of_length_le (by omega)]; rfl), by omega⟩)
  ·as_aux_lemma =>
   clear hF
   rintro fr st' ⟨q, acc, hF, hk, hacc, halen⟩
   simp only [Fs] at hF
   have ad5 : ∀ kk, Je Tryz.prog kk .add 9 (.str acc) (.str (S.ofList [34])) = some (.str (acc.app (S.ofList [34]))) := fun kk => QQ (by rw [Jb]; simp; omega)
   refine Ks_ (Ks_ (Ka_ (gs := [none]) fun K1 gK => ?_))
   simp (disch := omega) [hF]
   refine gK _ _ ?_
   cases q with
   | true =>
    refine Kt_ (by simp (disch := omega) []) (Ka_ (gs := [none, none, none]) fun K1 gK => ?_)
    simp (disch := omega) [hF, ad5]
    refine gK _ _ (Ks_ (Ka_ (gs := [none, none, none]) fun K1 gK => ?_))
    simp (disch := omega) []
    refine gK _ _ (Kq_ (gr _ _ ?_))
    simp [JW, Tryz.f69, hF]
    refine hR _ _ ?_
    exact ⟨⟨_, rfl, by rw [S.toList_app, S.toList_ofList]; exact hacc.symm⟩, kq.trans (hk1.trans hk)⟩
   | false =>
    refine Kf_ (by simp (disch := omega) []) (Kk_ (Ks_ (Ka_ (gs := [none, none, none]) fun K1 gK => ?_)))
    simp (disch := omega) [hF]
    refine gK _ _ (Kq_ (gr _ _ ?_))
    simp [JW, Tryz.f69, hF]
    refine hR _ _ ?_
    exact ⟨⟨acc, rfl, by simpa using hacc.symm⟩, kq.trans (hk1.trans hk)⟩
 | false =>
  refine Kt_ (by simp (disch := omega) []) (Ks_ (Ka_ (gs := [none, none]) fun K1 gK => ?_))
  simp (disch := omega) []
  refine gK _ _ (Kq_ (gr _ _ ?_))
  simp [JW, Tryz.f69, hF]
  refine hR _ _ ?_
  exact ⟨⟨_, rfl, rfl⟩, kq.trans hk1⟩
end Go.Vm
namespace Go.Vm
open Go Go.Proofs Go.Sy
set_option maxRecDepth 100000
attribute [local simp] OkG Ql QG OkD Qf J8 JT Jj Jo vop Js Jy ev evs toV Jn Fr.dsTo Fr.glTo Fr.toNone Jk Jl Jm J6 Qe Jc Jz Jw V.undef JU JO Qn Qo Qt Qp Qu Qv JN Qw Qx Qy J7 Qz Ji Jt JG Jq JI Jp JX J2 Jv JM JP JS JK
theorem Jid (l : List Wp) : Rz 3 (l.map Wp.cells) := fun c hc => by
 obtain ⟨p, _, rfl⟩ := List.mem_map.1 hc; rfl
theorem Jcz (l : List Wp) : (l.map Wp.cells).flatten = Jaa l := by
 unfold Jaa; rw [List.flatMap_def]
theorem Vp.sv {st : St} {x : V} {l : List Wp} (h : Vp st x l) : Sv 3 st x (l.map Wp.cells) := by
 cases h with
 | nils => exact .nils
 | sl l ex =>
  have := Sv.sl (z := 3) (st := st) (l.map Wp.cells) ex (Jid l)
  rwa [Jcz, List.length_map] at this
 | ms id off cap cs r e fl fz l hb hid hd ho hc =>
  have hlen : cs.length = off + l.length * 3 + r.length := by
   have := congrArg List.length hd
   rw [List.length_drop, List.length_append, JaD] at this
   omega
  have := Sv.ms (z := 3) (st := st) id off cap cs e fl fz (l.map Wp.cells) (Jid l) hb (by
   rw [Jcz, List.length_map]; unfold sub; rw [hd, List.take_append_of_le_length (by rw [JaD]; exact Nat.le_refl _), List.take_of_length_le (by rw [JaD]; exact Nat.le_refl _)]) (by rw [List.length_map]; omega) hid (by rw [List.length_map]; exact hc)
  rwa [List.length_map] at this
theorem Mz.vp {lo : Nat} {e : TypeId} {st : St} {x : V} {l : List Wp} {m : List (List V)} (h : Mz 3 lo e st x m) (hm : m = l.map Wp.cells) : Vp st x l := by
 cases h with
 | nils =>
  have : l = [] := by simpa using hm.symm
  subst this; exact .nils
 | ms id cap cs fl css hz hlo hid hb hs hn hcap =>
  subst hm
  rw [List.length_map] at hs hn hcap ⊢
  rw [Jcz] at hs
  refine .ms id 0 cap cs (cs.drop (l.length * 3)) e fl (some 0) l hb hid (by rw [List.drop_zero, ← hs, List.take_append_drop]) (Nat.zero_le _) ?_
  cases cap with
  | none => exact Jaq _
  | some c => exact Nat.ble_eq_true_of_le (hcap c rfl).1
theorem i43 : ∃ i, Tryz.prog.info? 43 = some i ∧ i.size = 3 ∧ i.bytes ≤ 64 := ⟨_, rfl, by decide, by decide⟩
theorem Jpk : Q7 Tryz.prog 43 = some (.agg [.bool false, .str ⟨0, 0⟩, .bool false]) := by kernel_rfl
theorem Jmp {z n : Nat} {c : List V} (h : c.length = z) : (Jba c n).length = n * z := by
 induction n with
 | zero => simp [Jba]
 | succ n ih => rw [Jba, List.length_append, ih, h, Nat.succ_mul]; omega
theorem JpT (st : St) {n : Nat} (h0 : 0 < n) (h : n ≤ 100000) : ∃ st', JcT Tryz.prog st 39 .nils (.int .i64 (n : Int)) = some (.ms st.ctr 0 n 3 none, st') ∧ Keep st st' ∧ st'.ctr = st.ctr + 1 ∧ Mz 3 st.ctr 43 st' (.ms st.ctr 0 0 3 none) [] := by
 obtain ⟨i, hi, h1, h2⟩ := i43
 have hz : (Jba [V.bool false, V.str ⟨0, 0⟩, V.bool false] n).length = n * 3 := Jmp rfl
 have hone : (Jba [V.bool false, V.str ⟨0, 0⟩, V.bool false] n).all Ju = true := by
  have : ∀ k, (Jba [V.bool false, V.str ⟨0, 0⟩, V.bool false] k).all Ju = true := fun k => by
   induction k with
   | zero => rfl
   | succ k ih => rw [Jba, List.all_append, ih]; rfl
  exact this n
 obtain ⟨m, rfl⟩ : ∃ m, n = m + 1 := ⟨n - 1, by omega⟩
 have q0 : Nat.beq (Jba [V.bool false, V.str ⟨0, 0⟩, V.bool false] (m + 1)).length ((m + 1) * 3) = true := by rw [hz, Nat.beq_refl]
 have q1 : Nat.ble ((m + 1) * i.bytes) Jr = true := Nat.ble_eq_true_of_le (Nat.le_trans (Nat.mul_le_mul (show m + 1 ≤ 100000 by omega) h2) (by simp [Jr]))
 have q2 : Nat.ble (m + 1) Jr = true := Nat.ble_eq_true_of_le (by simp [Jr]; omega)
 refine ⟨st.new (.cells (Jba [V.bool false, V.str ⟨0, 0⟩, V.bool false] (m + 1)) 43 false (some 0)), ?_, (Keep.refl st).new' _, rfl, ?_⟩
 ·have e3 : Nat.beq 3 3 = true := rfl
  simp only [JcT, Tryz.underlying39, Qa, z33, Jpk, JP, List.length_cons, List.length_nil, e3, J0, hi, h1, show Nat.beq 3 0 = false from rfl, Qj, JJ, show Nat.beq (m + 1) 0 = false from rfl, q0, q1, q2, hone, Bool.and_self, List.nil_append, Nat.zero_add]
  rfl
 ·refine .ms st.ctr none _ false [] (fun c hc => by cases hc) (Nat.le_refl _) (Nat.lt_succ_self _) (by rw [Q9, if_pos rfl]) (by simp) (by simp) (fun c hc => by cases hc)
theorem Jjf {st : St} {x s : V} {l m : List Wp} {lo : Nat} (h : Mz 3 lo 43 st x (l.map Wp.cells)) (hm : Vp st s m) (hlo : lo ≤ st.ctr) (hb : l.length + m.length ≤ 100000) :
  ∃ y st', J0 Tryz.prog st 39 x s = some (y, st') ∧ Low lo st st' ∧ Mz 3 lo 43 st' y ((l ++ m).map Wp.cells) ∧ (∀ i, vid y i → vid x i ∨ st.ctr ≤ i) ∧ ∀ i, i < st.ctr → ¬ vid x i → st'.box.get i = st.box.get i := by
 obtain ⟨i, hi, h1, h2⟩ := i43
 rw [List.map_append]
 refine h.push Tryz.underlying39 hi h1 rfl Jpk rfl hm.sv (by rw [Jcz]; exact Jf0 m) hlo ?_ (by simp [Jr]; omega)
 refine Nat.le_trans (Nat.mul_le_mul (show _ ≤ 100000 by simp; omega) h2) (by simp [Jr])
variable [Memo] [NY] [NO]
set_option maxRecDepth 100000 in
omit [NO] in
theorem Jmq (gl : Gl) (st : St) (n : Nat) (h0 : 0 < n) (h : n ≤ 100000) :
  Says Tryz.prog gl 112 [.nils, .int .i64 (n : Int)] st (fun v st' => v = .ms st.ctr 0 0 3 none ∧ Keep st st' ∧ Mz 3 st.ctr 43 st' (.ms st.ctr 0 0 3 none) []) := by
 refine Qb (NY.no _ rfl rfl rfl _ _) Tryz.func112 rfl (by kernel_rfl) fun R hR K gr gn => ?_
 generalize hfr : JC gl [.nils, .int .i64 (n : Int)] = fr
 have hF : Fs gl [(0, .nils), (1, .int .i64 (n : Int))] fr := by subst hfr; simp [Fs]
 simp only [Fs] at hF
 clear hfr
 obtain ⟨s1, e1, k1, c1, m1⟩ := JpT st h0 h
 have hlt : ∀ kk, Je Tryz.prog kk .lss 3 (.int .i64 (n : Int)) (.int .i64 0) = some (.bool false) := fun kk => by rw [JbS]; simp
 have hgt : ∀ kk, Je Tryz.prog kk .gtr 3 (.int .i64 (n : Int)) (.int .i64 0) = some (.bool true) := fun kk => by rw [JaQ]; simp; omega
 have hsl : QA Tryz.prog 39 (.ms st.ctr 0 n 3 none) none (some (.int .i64 0)) = some (.ms st.ctr 0 0 3 none) := by
  simp only [QA, Tryz.underlying39, JH, z33]
  rfl
 have hsn : QA Tryz.prog 39 .nils none (some (.int .i64 0)) = some .nils := by
  simp only [QA, Tryz.underlying39]
  rfl
 have hln : QU Tryz.prog 39 .nils = some (.int .i64 0) := by simp only [QU, Tryz.underlying39]
 refine Ks_ (Ka_ (gs := [none]) fun K1 gK => ?_)
 simp (disch := omega) []
 refine gK _ _ (Ks_ (Ks_ (Ka_ (gs := [none, none]) fun K1 gK => ?_)))
 simp (disch := omega) [hF, hlt]
 refine gK _ _ (Kf_ (by simp (disch := omega) []) (Kk_ (Ks_ (Ks_ (Ka_ (gs := [none, none, none, none, none, none, none, none]) fun K1 gK => ?_)))))
 simp (disch := omega) [hF, hln, Tryz.underlying39]
 refine gK _ _ (Ks_ (Ka_ (gs := [none, none]) fun K1 gK => ?_))
 simp (disch := omega) [hgt]
 refine gK _ _ (Kt_ (by simp (disch := omega) []) (Ka_ (gs := [none, none, none, none, none, none, none, none, none, none]) fun K1 gK => ?_))
 simp (disch := omega) [hF, hsl, hsn, hln, e1, Tryz.underlying39]
 refine gK _ _ (Ks_ (Ka_ (gs := [none, none]) fun K1 gK => ?_))
 simp (disch := omega) []
 refine gK _ _ (Kq_ (gr _ _ ?_))
 simp [JW, Tryz.f112, hF]
 refine hR _ _ ?_
 exact ⟨rfl, k1, m1⟩
set_option maxRecDepth 100000 in
omit [NO] in
theorem Jlb (gl : Gl) (st : St) (id : Nat) (s1 s2 : V) (l1 l2 : List Wp) (hid : id < st.ctr) (hb : st.box.get id = some (.cells [s1, s2] 39 true (some 0))) (h1 : Vp st s1 l1) (h2 : Vp st s2 l2) (h0 : 0 < l1.length) (hl : l1.length + l2.length ≤ 100000) :
  Says Tryz.prog gl 90 [.ms id 0 2 1 (some 2)] st (fun v st' => Mz 3 st.ctr 43 st' v ((l1 ++ l2).map Wp.cells) ∧ Keep st st') := by
 refine Qb (NY.no _ rfl rfl rfl _ _) Tryz.func90 rfl (by kernel_rfl) fun R hR K gr gn => ?_
 generalize hfr : JC gl [.ms id 0 2 1 (some 2)] = fr
 have hF : Fs gl [(0, .ms id 0 2 1 (some 2))] fr := by subst hfr; simp [Fs]
 simp only [Fs] at hF
 clear hfr
 have ll : QU Tryz.prog 126 (.ms id 0 2 1 (some 2)) = some (.int .i64 2) := by simp only [QU, Tryz.underlying126]; rfl
 have ix : ∀ i : Nat, i < 2 → Jd Tryz.prog 126 (.ms id 0 2 1 (some 2)) (.int .i64 (i : Int)) = some (.ptr id i) := fun i hi => by
  have := Jb9 (P := Tryz.prog) (t := 126) (id := id) (off := 0) (n := 2) (z := 1) (i := i) (cap := some 2) (k := .i64) Tryz.underlying126 z39 hi
  simpa using this
 have x0 : Jd Tryz.prog 126 (.ms id 0 2 1 (some 2)) (.int .i64 0) = some (.ptr id 0) := ix 0 (by omega)
 have x1 : Jd Tryz.prog 126 (.ms id 0 2 1 (some 2)) (.int .i64 1) = some (.ptr id 1) := ix 1 (by omega)
 have ld : ∀ {s : St}, Keep st s → JB Tryz.prog s 39 (.ptr id 0) = some s1 ∧ JB Tryz.prog s 39 (.ptr id 1) = some s2 := fun k => ⟨Jf (off := 0) a39 z39 ((k.box id hid).trans hb) rfl, Jf (off := 1) a39 z39 ((k.box id hid).trans hb) rfl⟩
 obtain ⟨d0, d1⟩ := ld (.refl st)
 have v1 := h1.len
 have v2 := h2.len
 refine Ks_ (Ka_ (gs := [none]) fun K1 gK => ?_)
 simp (disch := omega) []
 refine gK _ _ (Ks_ (Ka_ (gs := [none]) fun K1 gK => ?_))
 simp (disch := omega) []
 refine gK _ _ (Ks_ (Ks_ (Ka_ (gs := [none, none, none]) fun K1 gK => ?_)))
 simp (disch := omega) [hF, ll]
 refine gK _ _ ?_
 refine Kl_ (2) (fun i fr st' => Fs gl [(0, .ms id 0 2 1 (some 2)), (3, .int .i64 ((if i = 0 then 0 else if i = 1 then l1.length else l1.length + l2.length : Nat) : Int)), (9, .ms id 0 2 1 (some 2)), (10, .int .i64 2), (11, .int .i64 (i : Int))] fr ∧ i ≤ 2 ∧ st = st') (0) (fun fr st' => Fs gl [(0, .ms id 0 2 1 (some 2)), (3, .int .i64 ((l1.length + l2.length : Nat) : Int))] fr ∧ st = st') ?_ ?_ ?_ ?_
 ·exact ⟨by simp [Fs, hF], Nat.zero_le _, rfl⟩
 ·rintro i fr st' ⟨_, hi, rfl⟩
  omega
 ·as_aux_lemma =>
  clear hF
  rintro i fr st' ⟨hF, hi, rfl⟩ K1 gk1 gx1 go1
  simp only [Fs] at hF
  refine Ks_ (Ka_ (gs := [none]) fun K1 gK => ?_)
  simp (disch := omega) [hF]
  refine gK _ _ (Ks_ ?_)
  by_cases hlt : i < 2
  ·
   refine Kt_ (by simp (disch := omega) [hlt]) ?_
   have hxi := ix i hlt
   have nl : ∀ (n : Nat) kk, Je Tryz.prog kk .lss 3 (.int .i64 (n : Int)) (.int .i64 0) = some (.bool false) := fun n kk => by rw [JbS]; simp
   have nla := nl l1.length
   have nlb := nl (l1.length + l2.length)
   simp only [Int.natCast_add] at nlb
   by_cases hi0 : i = 0
   ·
    subst hi0
    refine Kk_ (Ks_ ?_)
    refine Kb_ fun K2 gn2 gx2 go2 => ?_
    refine Ks_ (Ka_ (gs := [none, none, none]) fun K1 gK => ?_)
    simp (disch := omega) [hF, d0, hlt, x0]
    refine gK _ _ (Ks_ (Ka_ (gs := [none, none, none, none, none]) fun K1 gK => ?_))
    simp (disch := omega) [hF, v1]
    refine gK _ _ (Ks_ (Ka_ (gs := [none, none]) fun K1 gK => ?_))
    simp (disch := omega) [nla]
    refine gK _ _ (Kf_ (by simp (disch := omega) []) (Kk_ (gn2 _ _ (Ka_ (gs := [none, none]) fun K1 gK => ?_))))
    simp (disch := omega) [hF]
    refine gK _ _ ?_
    refine gk1 (1) _ _ (by omega) ⟨by simp [Fs, hF], by omega, rfl⟩
   ·
    have hi1 : i = 1 := by omega
    subst hi1
    refine Kk_ (Ks_ ?_)
    refine Kb_ fun K3 gn3 gx3 go3 => ?_
    refine Ks_ (Ka_ (gs := [none, none, none]) fun K1 gK => ?_)
    simp (disch := omega) [hF, d1, hlt, x1]
    refine gK _ _ (Ks_ (Ka_ (gs := [none, none, none, none, none]) fun K1 gK => ?_))
    simp (disch := omega) [hF, v2]
    refine gK _ _ (Ks_ (Ka_ (gs := [none, none]) fun K1 gK => ?_))
    simp (disch := omega) [nlb]
    refine gK _ _ (Kf_ (by simp (disch := omega) []) (Kk_ (gn3 _ _ (Ka_ (gs := [none, none]) fun K1 gK => ?_))))
    simp (disch := omega) [hF]
    refine gK _ _ ?_
    refine gk1 (2) _ _ (by omega) ⟨by simp [Fs, hF],  by omega, rfl⟩
  ·
   refine Kf_ (by simp (disch := omega) [hlt]) ?_
   exact Kx_ (gx1 _ _ ⟨by (have hi2 : i = 2 := (by omega); subst hi2; simp [Fs, hF]),  rfl⟩)
 ·as_aux_lemma =>
  clear hF
  rintro fr st' ⟨hF, rfl⟩
  simp only [Fs] at hF
  obtain ⟨v, q, hcg, rfl, kq, mq⟩ := Says.use (Jmq gl st (l1.length + l2.length) (by omega) hl)
  simp only [Int.natCast_add] at hcg
  refine Ks_ (Ka_ (gs := [none, none, none]) fun K1 gK => ?_)
  simp (disch := omega) [hF, hcg]
  refine gK _ _ (Ks_ (Ks_ (Ka_ (gs := [none, none, none]) fun K1 gK => ?_)))
  simp (disch := omega) [hF, ll]
  refine gK _ _ ?_
  refine Kl_ (2) (fun i fr st' => ∃ (y : V), Fs gl [(6, y), (25, .ms id 0 2 1 (some 2)), (26, .int .i64 2), (27, .int .i64 (i : Int))] fr ∧ i ≤ 2 ∧ Keep st st' ∧ Mz 3 st.ctr 43 st' y ((if i = 0 then [] else if i = 1 then l1 else l1 ++ l2 : List Wp).map Wp.cells)) (0) (fun fr st' => ∃ (y : V), Fs gl [(6, y)] fr ∧ Keep st st' ∧ Mz 3 st.ctr 43 st' y ((l1 ++ l2).map Wp.cells)) ?_ ?_ ?_ ?_
  ·exact ⟨.ms st.ctr 0 0 3 none, by simp [Fs, hF], Nat.zero_le _, kq, by simpa using mq⟩
  ·rintro i fr st' ⟨y, _, hi, hk, hm⟩
   omega
  ·as_aux_lemma =>
   clear hF
   rintro i fr st' ⟨y, hF, hi, hk, hm⟩ K4 gk4 gx4 go4
   simp only [Fs] at hF
   refine Ks_ (Ka_ (gs := [none]) fun K1 gK => ?_)
   simp (disch := omega) [hF]
   refine gK _ _ (Ks_ ?_)
   by_cases hlt : i < 2
   ·
    refine Kt_ (by simp (disch := omega) [hlt]) ?_
    obtain ⟨e0, e1⟩ := ld hk
    have kc := hk.ctr
    by_cases hi0 : i = 0
    ·
     subst hi0
     obtain ⟨y1, s3, ea, lw, m3, _, _⟩ := Jjf (l := []) (by simpa using hm) (h1.keep hk) (by omega) (by simp; omega)
     refine Kk_ (Ks_ ?_)
     refine Kb_ fun K5 gn5 gx5 go5 => ?_
     refine Ks_ (Ka_ (gs := [none, none, none]) fun K1 gK => ?_)
     simp (disch := omega) [hF, hlt, e0, x0]
     refine gK _ _ (Ka_ (gs := [none, none, none, none]) fun K1 gK => ?_)
     simp (disch := omega) [hF, ea]
     refine gK _ _ (gn5 _ _ (Ka_ (gs := [none, none]) fun K1 gK => ?_))
     simp (disch := omega) [hF]
     refine gK _ _ ?_
     refine gk4 (1) _ _ (by omega) ⟨y1, by simp [Fs, hF], by omega, Low.keep lw hk (Nat.le_refl _), by simpa using m3⟩
    ·
     have hi1 : i = 1 := by omega
     subst hi1
     obtain ⟨y1, s3, ea, lw, m3, _, _⟩ := Jjf (l := l1) (by simpa using hm) (h2.keep hk) (by omega) (by omega)
     refine Kk_ (Ks_ ?_)
     refine Kb_ fun K6 gn6 gx6 go6 => ?_
     refine Ks_ (Ka_ (gs := [none, none, none]) fun K1 gK => ?_)
     simp (disch := omega) [hF, hlt, e1, x1]
     refine gK _ _ (Ka_ (gs := [none, none, none, none]) fun K1 gK => ?_)
     simp (disch := omega) [hF, ea]
     refine gK _ _ (gn6 _ _ (Ka_ (gs := [none, none]) fun K1 gK => ?_))
     simp (disch := omega) [hF]
     refine gK _ _ ?_
     refine gk4 (2) _ _ (by omega) ⟨y1, by simp [Fs, hF], by omega, Low.keep lw hk (Nat.le_refl _), by simpa using m3⟩
   ·
    refine Kf_ (by simp (disch := omega) [hlt]) ?_
    exact Kx_ (gx4 _ _ ⟨y, by simp [Fs, hF, hlt], hk, by (have hi2 : i = 2 := (by omega); subst hi2; simpa using hm)⟩)
  ·as_aux_lemma =>
   clear hF
   rintro fr st' ⟨y, hF, hk, hm⟩
   simp only [Fs] at hF
   refine Ks_ (Ka_ (gs := [none, none]) fun K1 gK => ?_)
   simp (disch := omega) [hF]
   refine gK _ _ (Kq_ (gr _ _ ?_))
   simp [JW, Tryz.f90, hF]
   refine hR _ _ ?_
   exact ⟨hm, hk⟩
end Go.Vm
namespace Go.Vm
open Go Go.Proofs Go.Sy
set_option maxRecDepth 100000
attribute [local simp] OkP Jbg OkS Q0 OkG Ql QG OkD Qf J8 JT Jj Jo vop Js Jy ev evs toV Jn Fr.dsTo Fr.glTo Fr.toNone Jk Jl Jm J6 Qe Jc Jz Jw V.undef JU JO Qn Qo Qt Qp Qu Qv JN Qw Qx Qy J7 Qz Ji Jt JG Jq JI Jp JX J2 Jv JM JP JS JK
def Jbv (nq : S) : List Wp → List Wp
 | [] => [⟨false, nq, false⟩]
 | p :: r => cond (!p.v && !p.q) (⟨false, nq.app p.t, false⟩ :: r) (⟨false, nq, false⟩ :: p :: r)
def hdB : List Wp → Bool
 | [] => false
 | p :: _ => !p.v && !p.q
def hdV : List Wp → Bool
 | [] => false
 | p :: _ => !p.v
structure CB (st : St) (id : Nat) (k : Nat) (a : Int) (nm : S) (wv kv : V) : Prop where
 b : st.box.get id = some (.cells [.int .u8 (k : Int), .int .i64 a, .str nm, wv, kv] 25 true (some 0))
 lt : id < st.ctr
theorem CB.keep {st st' : St} {id k : Nat} {a : Int} {nm : S} {wv kv : V} (h : CB st id k a nm wv kv) (k' : Keep st st') : CB st' id k a nm wv kv := ⟨by rw [k'.box id h.lt]; exact h.b, Nat.lt_of_lt_of_le h.lt k'.ctr⟩
structure CLd (st : St) (id : Nat) (k : Nat) (a : Int) (nm : S) (wv kv : V) : Prop where
 l0 : JB Tryz.prog st 5 (.ptr id 0) = some (.int .u8 (k : Int))
 l2 : JB Tryz.prog st 9 (.ptr id 2) = some (.str nm)
 l3 : JB Tryz.prog st 22 (.ptr id 3) = some wv
 l4 : JB Tryz.prog st 23 (.ptr id 4) = some kv
 l : JB Tryz.prog st 25 (.ptr id 0) = some (.agg [.int .u8 (k : Int), .int .i64 a, .str nm, wv, kv])
theorem CB.ld {st : St} {id k : Nat} {a : Int} {nm : S} {wv kv : V} (h : CB st id k a nm wv kv) : CLd st id k a nm wv kv :=
 ⟨Jf (off := 0) a5 z5 h.b rfl, Jf (off := 2) a9 z9 h.b rfl, Jf (off := 3) Je2 Je1 h.b rfl, Jf (off := 4) JfK JfJ h.b rfl, by simp only [JB, h.b, Q5, a25, z25]; rfl⟩
theorem Jge {k : Nat} {a : Int} {nm : S} {wv kv : V} (h1 : Ju wv = true) (h2 : Ju kv = true) : ([.int .u8 (k : Int), .int .i64 a, .str nm, wv, kv] : List V).all Ju = true := by simp only [List.all_cons, h1, h2]; rfl
theorem CB.new {st : St} {k : Nat} {a : Int} {nm : S} {wv kv : V} : CB (QM st [.int .u8 (k : Int), .int .i64 a, .str nm, wv, kv] 25) st.ctr k a nm wv kv := ⟨Jaf .., Nat.lt_succ_self _⟩
theorem Jbw : Q7 Tryz.prog 41 = some (.agg [.nils, .int .i64 0]) := by kernel_rfl
theorem Jar (s : S) : JbO Tryz.prog 43 [(1, .str s)] = some (.agg [.bool false, .str s, .bool false]) := by kernel_rfl
theorem JoE (p : Wp) : Qc Tryz.prog 39 1 [(0, .agg [.bool p.v, .str p.t, .bool p.q])] = some ([.bool p.v, .str p.t, .bool p.q], 43, 3) := by kernel_rfl
theorem pbx {st : St} {id : Nat} {p : Wp} (hb : st.box.get id = some (.cells [.bool p.v, .str p.t, .bool p.q] 43 true (some 0))) (hid : id < st.ctr) : Vp st (.ms id 0 1 3 (some 1)) [p] :=
 .ms id 0 (some 1) _ [] 43 true (some 0) [p] hb hid (by simp [Jaa, Wp.cells]) (by simp) rfl
theorem Jmr (p : Wp) : ([.bool p.v, .str p.t, .bool p.q] : List V).all Ju = true := rfl
theorem JcZ {nq : S} {p : Wp} {r : List Wp} (h : hdB (p :: r) = true) : Jbv nq (p :: r) = ⟨false, nq.app p.t, false⟩ :: r := by
 show cond (!p.v && !p.q) _ _ = _
 rw [show (!p.v && !p.q) = true from h]; rfl
theorem Jd1 {nq : S} {l : List Wp} (h : hdB l = false) : Jbv nq l = ⟨false, nq, false⟩ :: l := by
 cases l with
 | nil => rfl
 | cons p r =>
  show cond (!p.v && !p.q) _ _ = _
  rw [show (!p.v && !p.q) = false from h]; rfl
theorem JfR (nq : S) (l : List Wp) : (Jbv nq l).length ≤ l.length + 1 := by
 cases h : hdB l with
 | false => rw [Jd1 h]; simp
 | true =>
  cases l with
  | nil => cases h
  | cons p r => rw [JcZ h]; simp
theorem Jpl {st : St} {y : V} {r : List Wp} (id : Nat) (h : Vp st y r) : Qc Tryz.prog 126 2 [(0, .ms id 0 1 3 (some 1)), (1, y)] = some ([.ms id 0 1 3 (some 1), y], 39, 1) := by cases h <;> kernel_rfl
theorem Jpm {lo : Nat} {e : TypeId} {st : St} {v : V} {m : List (List V)} (h : Mz 3 lo e st v m) : JbO Tryz.prog 41 [(0, v)] = some (.agg [v, .int .i64 0]) := by cases h <;> kernel_rfl
theorem Mz.one {z lo : Nat} {e : TypeId} {st : St} {v : V} {m : List (List V)} (h : Mz z lo e st v m) : Ju v = true := by cases h <;> rfl
variable [Memo] [NY] [NO]
set_option maxHeartbeats 4000000 in
set_option maxRecDepth 100000 in
omit [NO] in
theorem JnF (gl : Gl) (st : St) (k : Nat) (a : Int) (nm : S) (wv : V) (ws : List Ww) (kv : V) (hw : Row Ww.cells wv ws) (h0 : 0 < ws.length) (hok : ws[0].ok) (hko : Ju kv = true) (hl : ws[0].l.length ≤ 1000) (hn : nm.n ≤ 100000) (ht : ∀ p ∈ ws[0].l, p.t.n ≤ 100000) :
  Says Tryz.prog gl 61 [.agg [.int .u8 (k : Int), .int .i64 a, .str nm, wv, kv]] st (fun v st' => Wv st' v (Jbv (nm.app (S.ofList [61])) ws[0].l) ∧ Keep st st') := by
 refine Qb (NY.no _ rfl rfl rfl _ _) Tryz.func61 rfl (by kernel_rfl) fun R hR K gr gn => ?_
 generalize hfr : JC gl [.agg [.int .u8 (k : Int), .int .i64 a, .str nm, wv, kv]] = fr
 have hF : Fs gl [(0, .agg [.int .u8 (k : Int), .int .i64 a, .str nm, wv, kv])] fr := by subst hfr; simp [Fs]
 simp only [Fs] at hF
 clear hfr
 have ho := Jge (k := k) (a := a) (nm := nm) hw.one hko
 have kq := JL st [.int .u8 (k : Int), .int .i64 a, .str nm, wv, kv] 25
 have hb := JZ st [.int .u8 (k : Int), .int .i64 a, .str nm, wv, kv] 25
 have hC := CB.new (st := st) (k := k) (a := a) (nm := nm) (wv := wv) (kv := kv)
 have cq := Jae st [.int .u8 (k : Int), .int .i64 a, .str nm, wv, kv] 25
 generalize QM st [.int .u8 (k : Int), .int .i64 a, .str nm, wv, kv] 25 = q0 at kq hb hC cq
 have k1 := JL q0 [.nils, .int .i64 0] 41
 have e1 := JZ q0 [.nils, .int .i64 0] 41
 have b1 := Jaf q0 [.nils, .int .i64 0] 41
 have c1 := Jae q0 [.nils, .int .i64 0] 41
 generalize QM q0 [.nils, .int .i64 0] 41 = q1 at k1 e1 b1 c1
 have l2 := (hC.keep k1).ld.l2
 have ad : ∀ kk, Je Tryz.prog kk .add 9 (.str nm) (.str (S.ofList [61])) = some (.str (nm.app (S.ofList [61]))) := fun kk => QQ (by rw [Jb]; simp; omega)
 obtain ⟨nq, hnq⟩ : ∃ x, nm.app (S.ofList [61]) = x := ⟨_, rfl⟩
 have hnqn : nq.n ≤ 100001 := by rw [← hnq, Jby, Jb]; simp; omega
 rw [hnq] at ad hR
 have hns := QS q1 ⟨false, nq, false⟩
 have nk := Q3 q1 ⟨false, nq, false⟩
 have nb := Jai q1 ⟨false, nq, false⟩
 have nc := JaE q1 ⟨false, nq, false⟩
 have ncc : (Q2 q1 ⟨false, nq, false⟩).ctr = q1.ctr + 1 := rfl
 generalize Q2 q1 ⟨false, nq, false⟩ = q2 at hns nk nb nc ncc
 have k02 : Keep q0 q2 := k1.trans nk
 have l3 := (hC.keep k02).ld.l3
 obtain ⟨rr, hi1⟩ := hw.get (fun w _ => w.len2) Tryz.underlying22 z41 h0
 have hi1 : Jd Tryz.prog 22 wv (.int .i64 0) = some (.cp (ws[0].cells ++ rr)) := hi1 .i64
 have fx0 : JD Tryz.prog 41 (.cp (ws[0].cells ++ rr)) 0 = some (.cp (ws[0].cells ++ rr)) := by kernel_rfl
 have lx0 : ∀ s, JB Tryz.prog s 39 (.cp (ws[0].cells ++ rr)) = some ws[0].x := fun s => by
  simp only [JB, Q5, a39, z39, Ww.cells]; rfl
 have hvx : ∀ s, Vp s ws[0].x ws[0].l := Row.vp hok
 have oxw : Ju ws[0].x = true := Row.one hok
 have one41 : ([V.nils, .int .i64 0] : List V).all Ju = true := rfl
 generalize ws[0].x = x at lx0 hvx oxw
 generalize hlw : ws[0].l = l at hl ht hvx hR
 generalize ws[0].cells ++ rr = wr at hi1 fx0 lx0
 clear hok
 have lv := (hvx q2).len
 refine Ks_ (Ka_ (gs := [none, none]) fun K1 gK => ?_)
 simp (disch := omega) [hF, hb, ho, Jbw, e1, one41]
 refine gK _ _ (Ks_ (Ka_ (gs := [none, none, none, none, none, none]) fun K1 gK => ?_))
 simp (disch := omega) [cg2, l2, ad, Jar, JQ, hns, Ju, Jx]
 refine gK _ _ (Ks_ (Ka_ (gs := [none, none, none, none, none, none]) fun K1 gK => ?_))
 simp (disch := omega) [cg3, l3, hi1, fx0, lx0]
 refine gK _ _ (Ks_ (Ks_ ?_))
 refine Km_ (fun fr st' => Fs gl [(1, .ptr st.ctr 0), (2, .ptr q0.ctr 0), (3, .ptr q1.ctr 0), (4, x), (30, .bool (hdB l))] fr ∧ q2 = st') ?_ ?_
 ·as_aux_lemma =>
  intro K1 gm1 go1
  refine Ka_ (gs := [none, none, none, none, some (some 17, true), some (some 17, true), some (some 17, true), some (some 17, true), some (some 17, true), none, none, some (some 24, true), some (some 24, true), some (some 24, true), some (some 24, true), some (some 24, true), none]) fun K1 gK => ?_
  refine OkG.cutK 10 (fun fr st' => Fs gl [(1, .ptr st.ctr 0), (2, .ptr q0.ctr 0), (3, .ptr q1.ctr 0), (4, x), (23, .bool (hdV l))] fr ∧ q2 = st') (by kernel_rfl) ?_ ?_
  ·as_aux_lemma =>
   intro Kc gKc
   simp only [List.take]
   by_cases hl0 : l = []
   ·
    subst hl0
    simp only [List.length_nil] at lv
    simp (maxSteps := 1000000) (disch := omega) [lv]
    exact gKc _ _ ⟨by simp [Fs, hF, hdV],  rfl⟩
   ·
    obtain ⟨p, r, rfl⟩ := List.exists_cons_of_ne_nil hl0
    obtain ⟨ad0, had, hadp⟩ := (hvx q2).get (i := 0) (by simp)
    have had : Jd Tryz.prog 39 x (.int .i64 0) = some ad0 := had .i64
    obtain ⟨_, ⟨b0, f0, g0⟩, ⟨b1', f1, g1⟩, ⟨b2', f2, g2⟩⟩ := hadp.loads
    simp only [List.getD_cons_zero] at g0 g1 g2
    obtain ⟨A, hA⟩ : ∃ b, p.v = b := ⟨_, rfl⟩
    rw [hA] at g0
    simp only [List.length_cons] at lv
    have hgt : ∀ kk, Je Tryz.prog kk .gtr 3 (.int .i64 ((r.length + 1 : Nat) : Int)) (.int .i64 0) = some (.bool true) := fun kk => by rw [JaQ, decide_eq_true (by omega)]
    simp only [Int.natCast_add, Int.cast_ofNat_Int] at lv hgt
    cases A with
    | true =>
     simp (disch := omega) [lv, hgt, had, f0, g0]
     exact gKc _ _ ⟨by simp [Fs, hF, hdV, hA],  rfl⟩
    | false =>
     simp (disch := omega) [lv, hgt, had, f0, g0]
     exact gKc _ _ ⟨by simp [Fs, hF, hdV, hA],  rfl⟩
  ·as_aux_lemma =>
   clear hF
   rintro fr st' ⟨hF, rfl⟩
   simp only [Fs] at hF
   simp only [List.drop]
   obtain ⟨V1, hV1⟩ : ∃ b, hdV l = b := ⟨_, rfl⟩
   rw [hV1] at hF
   cases V1 with
   | true =>
    have hl0 : l ≠ [] := fun e => by rw [e] at hV1; cases hV1
    obtain ⟨p, r, rfl⟩ := List.exists_cons_of_ne_nil hl0
    obtain ⟨ad0, had, hadp⟩ := (hvx q2).get (i := 0) (by simp)
    have had : Jd Tryz.prog 39 x (.int .i64 0) = some ad0 := had .i64
    obtain ⟨_, ⟨b0, f0, g0⟩, ⟨b1', f1, g1⟩, ⟨b2', f2, g2⟩⟩ := hadp.loads
    simp only [List.getD_cons_zero] at g0 g1 g2
    have hA : (!p.v) = true := hV1
    obtain ⟨B, hB⟩ : ∃ b, p.q = b := ⟨_, rfl⟩
    rw [hB] at g2
    cases B with
    | true =>
     simp (disch := omega) [hF, had, f2, g2]
     refine gK _ _ ?_
     exact gm1 _ _ ⟨by simp [Fs, hF, hdB, hA, hB],  rfl⟩
    | false =>
     simp (disch := omega) [hF, had, f2, g2]
     refine gK _ _ ?_
     exact gm1 _ _ ⟨by simp [Fs, hF, hdB, hA, hB],  rfl⟩
   | false =>
    have hdb : hdB l = false := by
     cases l with
     | nil => rfl
     | cons p r =>
      show (!p.v && !p.q) = false
      rw [show (!p.v) = false from hV1]; rfl
    simp (disch := omega) [hF]
    refine gK _ _ ?_
    exact gm1 _ _ ⟨by simp [Fs, hF, hdb],  rfl⟩
 ·as_aux_lemma =>
  clear hF
  rintro fr st' ⟨hF, rfl⟩
  simp only [Fs] at hF
  obtain ⟨D, hD⟩ : ∃ b, hdB l = b := ⟨_, rfl⟩
  rw [hD] at hF
  refine Km_ (fun fr st' => ∃ (p : Wp) (y : V) (r : List Wp), Fs gl [(2, .ptr q0.ctr 0), (3, .ptr q1.ctr 0), (4, y)] fr ∧ (Keep q1 st' ∧ q1.ctr < st'.ctr) ∧ st'.box.get q1.ctr = some (.cells [.bool p.v, .str p.t, .bool p.q] 43 true (some 0)) ∧ (∀ s, Vp s y r) ∧ p :: r = Jbv nq l) ?_ ?_
  ·as_aux_lemma =>
   intro K2 gm2 go2
   cases D with
   | true =>
    refine Kt_ (by simp (disch := omega) [hF]) ?_
    have hl0 : l ≠ [] := fun e => by subst e; cases hD
    obtain ⟨p, r, rfl⟩ := List.exists_cons_of_ne_nil hl0
    obtain ⟨qt, hqt, kt, _⟩ := Jb0 q2 9
    obtain ⟨ad0, had, hadp⟩ := (hvx qt).get (i := 0) (by simp)
    have had : Jd Tryz.prog 39 x (.int .i64 0) = some ad0 := had .i64
    obtain ⟨_, _, ⟨b1', f1, g1⟩, _⟩ := hadp.loads
    simp only [List.getD_cons_zero] at g1
    have nbt : qt.box.get q1.ctr = some (.cells [.bool false, .str nq, .bool false] 43 true (some 0)) := (kt.box _ nc).trans nb
    have ln := Jf (P := Tryz.prog) (off := 1) a9 z9 nbt rfl
    have hpt := ht p (by simp)
    have ad2 : ∀ kk, Je Tryz.prog kk .add 9 (.str nq) (.str p.t) = some (.str (nq.app p.t)) := fun kk => QQ (by omega)
    have hst := QB (P := Tryz.prog) (st := qt) (t := 9) (off := 1) (v := .str (nq.app p.t)) z9 nbt (by simp) rfl
    obtain ⟨y, hy1, _⟩ := (hvx q2).tail (lo := 1) (k := .i64) (by simp)
    have hyv : ∀ s, Vp s y r := fun s => by
     obtain ⟨y2, h1, h2⟩ := (hvx s).tail (lo := 1) (k := .i64) (by simp)
     rw [hy1] at h1
     cases h1
     simpa using h2
    have hy1 : QA Tryz.prog 39 x (some (.int .i64 1)) none = some y := hy1
    have ktc := kt.ctr
    refine Ks_ (Kh_ (b := [0, 1, 0, 4, 12, 28, 63, 127, 255]) (gs := [none, none, none, none, none, none, none, none, none]) fun K1 gK => ?_)
    simp (disch := omega) [hF, hqt, had, f1, g1, pg1, ln, ad2, hst]
    refine gK _ _ (Ka_ (gs := [none, none, none]) fun K1 gK => ?_)
    simp (disch := omega) [hF, hy1]
    refine gK _ _ ?_
    exact gm2 _ _ ⟨⟨false, nq.app p.t, false⟩, y, r, by simp [Fs, hF], ⟨⟨Nat.le_trans (nk.trans kt).ctr (Nat.le_refl _), fun i hi => by (show (qt.box.put _ _).get i = _; rw [Tr.get_put, if_neg (by omega)]; exact (nk.trans kt).box i hi)⟩, by (show q1.ctr < qt.ctr; omega)⟩, by (show (qt.box.put _ _).get _ = _; rw [Tr.get_put, if_pos rfl]), hyv, (JcZ hD).symm⟩
   | false =>
    refine Kf_ (by simp (disch := omega) [hF]) (Kk_ ?_)
    exact gm2 _ _ ⟨⟨false, nq, false⟩, x, l, by simp [Fs, hF], ⟨nk, nc⟩, nb, hvx, (Jd1 hD).symm⟩
  ·as_aux_lemma =>
   clear hF
   rintro fr st' ⟨p, y, r, hF, ⟨hk5, h5c⟩, hb5, hy5, he5⟩
   simp only [Fs] at hF
   obtain ⟨s6, hs6⟩ : ∃ s, s = st'.new (.cells [.bool p.v, .str p.t, .bool p.q] 43 true (some 0)) := ⟨_, rfl⟩
   have k6 : Keep st' s6 := by rw [hs6]; exact (Keep.refl st').new' _
   have c6 : s6.ctr = st'.ctr + 1 := by rw [hs6]; rfl
   have g6 : s6.box.get st'.ctr = some (.cells [.bool p.v, .str p.t, .bool p.q] 43 true (some 0)) := by rw [hs6, Q9, if_pos rfl]
   have f6 : ({ ctr := st'.ctr + 1, box := st'.box.put st'.ctr (.cells [.bool p.v, .str p.t, .bool p.q] 43 true (some 0)) } : St) = s6 := by rw [hs6]; rfl
   clear hs6
   obtain ⟨s7, hs7⟩ : ∃ s, s = s6.new (.cells [.ms st'.ctr 0 1 3 (some 1), y] 39 true (some 0)) := ⟨_, rfl⟩
   have k7 : Keep s6 s7 := by rw [hs7]; exact (Keep.refl s6).new' _
   have c7 : s7.ctr = s6.ctr + 1 := by rw [hs7]; rfl
   have g7 : s7.box.get s6.ctr = some (.cells [.ms st'.ctr 0 1 3 (some 1), y] 39 true (some 0)) := by rw [hs7, Q9, if_pos rfl]
   have f7 : ({ ctr := s6.ctr + 1, box := s6.box.put s6.ctr (.cells [.ms st'.ctr 0 1 3 (some 1), y] 39 true (some 0)) } : St) = s7 := by rw [hs7]; rfl
   clear hs7
   have hrl : r.length ≤ 1001 := by
    have := congrArg List.length he5
    have h2 := JfR nq l
    simp only [List.length_cons] at this
    omega
   have hv6 := pbx g6 (by omega)
   obtain ⟨v, s8, hcc, hm8, k8⟩ := Says.use (Jlb gl s7 s6.ctr _ y [p] r (by omega) g7 (hv6.keep k7) (hy5 s7) (by simp) (by simp; omega))
   have l43 : JB Tryz.prog st' 43 (.ptr q1.ctr 0) = some (.agg [.bool p.v, .str p.t, .bool p.q]) := by simp only [JB, hb5, Q5, a33, z33]; rfl
   have kall : Keep q1 s8 := hk5.trans (k6.trans (k7.trans k8))
   have bt8 : s8.box.get q0.ctr = some (.cells [.nils, .int .i64 0] 41 true (some 0)) := (kall.box _ (by omega)).trans b1
   have hbd := Jpm hm8
   have h126 := Jpl (st := st') st'.ctr (hy5 st')
   have hone8 : ([v, .int .i64 0] : List V).all Ju = true := by simp only [List.all_cons, hm8.one]; rfl
   have hs9 := QK (P := Tryz.prog) (st := s8) (l := [v, .int .i64 0]) z41 bt8 rfl rfl hone8
   have hres : JB Tryz.prog ({ ctr := s8.ctr, box := s8.box.put q0.ctr (.cells [v, .int .i64 0] 41 true (some 0)) } : St) 41 (.ptr q0.ctr 0) = some (.agg [v, .int .i64 0]) := JfQ (by show (s8.box.put _ _).get _ = _; rw [Tr.get_put, if_pos rfl])
   have hyo := (hy5 st').one
   have ho7 : ([.ms st'.ctr 0 1 3 (some 1), y] : List V).all Ju = true := by simp only [List.all_cons, hyo]; rfl
   have b39 := JoE p
   have o39 := Jmr p
   refine Ks_ (Ka_ (gs := [none, none, none, none, none, none, none]) fun K1 gK => ?_)
   simp (disch := omega) [hF, l43, b39, o39, f6, h126, ho7, f7, hcc, hbd, hs9, Jx]
   refine gK _ _ (Kq_ (gr _ _ ?_))
   simp [JW, Tryz.f61, hF, hres]
   refine hR _ _ ?_
   refine ⟨⟨v, 0, rfl, ?_⟩, ?_⟩
   ·have hm9 : Vp s8 v (Jbv nq l) := by rw [← he5]; exact hm8.vp (l := p :: r) rfl
    have := hm8.stab (st' := { ctr := s8.ctr, box := s8.box.put q0.ctr (.cells [v, .int .i64 0] 41 true (some 0)) }) (Nat.le_refl _) fun i hi => by
     have := (hm8.vid_lt hi).1
     show (s8.box.put _ _).get i = _
     rw [Tr.get_put, if_neg (by omega)]
    rw [← he5]
    exact this.vp (l := p :: r) rfl
   ·refine ⟨(kq.trans (k1.trans kall)).ctr, fun i hi => ?_⟩
    show (s8.box.put _ _).get i = _
    rw [Tr.get_put, if_neg (by omega)]
    exact (kq.trans (k1.trans kall)).box i hi
end Go.Vm
