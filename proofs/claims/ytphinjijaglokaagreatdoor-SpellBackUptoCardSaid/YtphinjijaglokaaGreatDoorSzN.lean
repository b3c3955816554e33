/- Lines that tell the facts: plain. -/
import Derived.Test.YtphinjijaglokaaGreatDoorSz8
import Derived.Test.YtphinjijaglokaaGreatDoorSzM
namespace Go.Vm
open Go Go.Proofs Go.Pa
inductive FKd (f : Fw) : Prop where
 | any (h0 : f.known = false) (h1 : f.kind = 0) (h2 : f.rest = 0) (h3 : f.beside = 0) (h : Jhm f = [97, 110, 121])
 | absent (h0 : f.known = true) (h1 : f.kind = 0) (h2 : f.rest = 0) (h3 : f.beside = 0) (h : Jhm f = [97, 98, 115, 101, 110, 116])
 | file (h0 : f.known = true) (h1 : f.kind = 1) (h2 : f.rest = 0) (h3 : f.beside = 0) (h : Jhm f = [102, 105, 108, 101])
 | link (h0 : f.known = true) (h1 : f.kind = 3) (h2 : f.rest = 0) (h3 : f.beside = 0) (h : Jhm f = [108, 105, 110, 107])
 | whole (h0 : f.known = true) (h1 : f.kind = 2) (h2 : f.rest = 1) (h3 : f.beside = 0) (h : Jhm f = [100, 105, 114, 32, 119, 104, 111, 108, 101])
 | more (h0 : f.known = true) (h1 : f.kind = 2) (h2 : f.rest = 2) (h3 : 0 ≤ f.beside ∧ f.beside ≤ 60) (h : Jhm f = [100, 105, 114, 32, 109, 111, 114, 101, 32] ++ QY f.beside.toNat)
 | dir (h0 : f.known = true) (h1 : f.kind = 2) (h2 : f.rest = 0) (h3 : f.beside = 0) (h : Jhm f = [100, 105, 114])
end Go.Vm
namespace Go.Vm
open Go Go.Proofs Go.Pa
end Go.Vm
namespace Go.Vm
open Go Go.Proofs Go.Pa
abbrev tl (p : List S) : List (List UInt8) := p.map S.toList
end Go.Vm
namespace Go.Vm
open Go Go.Proofs Go.Pa
theorem Jev {α : Type} {p : α → α → Bool} : ∀ {l m : List α}, JaX p l m = true ↔ l.length = m.length ∧ ∀ k (h : k < l.length) (h' : k < m.length), p l[k] m[k] = true
 | [], [] => by simp [JaX]
 | [], _ :: _ => by simp [JaX]
 | _ :: _, [] => by simp [JaX]
 | a :: x, b :: y => by
  have ih := Jev (p := p) (l := x) (m := y)
  simp only [JaX, Bool.and_eq_true, ih, List.length_cons]
  constructor
  ·rintro ⟨h1, h2, h3⟩
   refine ⟨by omega, fun k h h' => ?_⟩
   cases k with
   | zero => exact h1
   | succ k => exact h3 k (by omega) (by omega)
  ·rintro ⟨h1, h2⟩
   exact ⟨h2 0 (by omega) (by omega), by omega, fun k h h' => h2 (k + 1) (by omega) (by omega)⟩
end Go.Vm
namespace Go.Vm
open Go Go.Proofs Go.Pa
theorem Jew {a b : S} (h : a.toList = b.toList) : a.n = b.n := by rw [← S.len, ← S.len, h]
theorem JfQ {a b : List S} (h : JaX S.same a b = true) : a.length = b.length ∧ ∀ i, (a.getD i ⟨0, 0⟩).toList = (b.getD i ⟨0, 0⟩).toList := by
 obtain ⟨h1, h2⟩ := Jev.1 h
 refine ⟨h1, fun i => ?_⟩
 by_cases hi : i < a.length
 ·rw [Jbs hi, Jbs (show i < b.length by omega)]
  have := h2 i hi (by omega)
  rwa [S.same_eq, beq_iff_eq] at this
 ·rw [List.getD_eq_getElem?_getD, List.getD_eq_getElem?_getD, List.getElem?_eq_none (by omega), List.getElem?_eq_none (by omega)]
theorem Ji5 {a b c d : S} (h1 : a.toList = b.toList) (h2 : c.toList = d.toList) : leS a c = leS b d := by
 unfold leS; rw [S.less_eq, S.less_eq, S.same_eq, S.same_eq, h1, h2]
theorem JgC {a b : S} (h : a.toList = b.toList) : Jca a = Jca b := by
 unfold Jca
 rw [S.same_eq, S.same_eq, S.same_eq, S.same_eq, Jew h, h]
theorem JgD {a b : List S} (h : JaX S.same a b = true) : JaM a = JaM b := by
 obtain ⟨h1, h2⟩ := JfQ h
 unfold JaM
 rw [h1]
 exact List.all_congr rfl fun i => by unfold JdL; rw [JgC (h2 i), Ji5 (h2 i) (h2 (i - 1))]
theorem JgE {a b : S} (h : a.toList = b.toList) : Jfz a = Jfz b := by
 unfold Jfz noZ; rw [h, Jew h]
theorem Jex : ∀ {l m : List Nt}, JaI l m = true → l.length = m.length
 | [], [], _ => rfl
 | [], _ :: _, h => by simp [JaI] at h
 | _ :: _, [], h => by simp [JaI] at h
 | a :: l, b :: m, h => by
  simp only [JaI, Bool.and_eq_true] at h
  simp [Jex h.2]
theorem JdM : ∀ {l m : List Nt}, (∀ t ∈ l, ∀ t', Jaz t t' = true → QQ t = QQ t') → JaI l m = true → Jbt l = Jbt m
 | [], [], _, _ => rfl
 | [], _ :: _, _, h => by simp [JaI] at h
 | _ :: _, [], _, h => by simp [JaI] at h
 | a :: l, b :: m, ih, h => by
  simp only [JaI, Bool.and_eq_true] at h
  simp only [Jbt, ih a (by simp) b h.1, JdM (fun t ht => ih t (by simp [ht])) h.2]
theorem JhI : ∀ t t' : Nt, Jaz t t' = true → QQ t = QQ t' := Nt.ind fun kind text names kids ih t' h => by
 cases t' with
 | mk kind' text' names' kids' =>
  simp only [Jaz, Bool.and_eq_true, decide_eq_true_eq] at h
  obtain ⟨rfl, h2, h3, h4⟩ := h
  rw [S.same_eq, beq_iff_eq] at h2
  have h5 := JdM (fun t ht => ih t ht) h4
  have h6 := Jex h4
  have h7 := (JfQ h3).1
  simp only [QQ, JgE h2, Jew h2, JgD h3, h5, h6, h7]
end Go.Vm
namespace Go.Vm
open Go Go.Proofs Go.Pa
attribute [local simp] OkP Qr OkS Qf OkG Qa Qe OkD J3 Qd JA Je Jj vop Jk Jr ev evs toV Ji Fr.dsTo Fr.glTo Fr.toNone Jf Jg Jh J9 Qu Jc Jy Jn V.undef JP JI JY JS JZ J7 J0 J1 JD J2 JV JT JQ J8 Jq Jo Jt Jw Jx Jp JL JM JC Qg
theorem JgF (s : S) : s.n + 2 ≤ (Ja8 s).length := by
 have := List.length_pos_iff.2 (JfW s.n)
 rw [Ja8]; simp [S.len]; omega
theorem Jfp : ∀ (ks : List Nt) (ns : List S), ns.length = ks.length → (∀ t ∈ ks, t.mass ≤ (shw t).length) → Ja9 ns + Jaf ks ≤ (QZ ks ns).length
 | [], [], _, _ => by simp [Ja9, Jaf]
 | [], _ :: _, h, _ => by simp at h
 | _ :: _, [], h, _ => by simp at h
 | t :: ks, s :: ns, h, ih => by
  have h1 := Jfp ks ns (by simpa using h) fun u hu => ih u (by simp [hu])
  have h2 := ih t (by simp)
  have h3 := JgF s
  simp only [Ja9, Jaf, QZ, List.length_append]; omega
theorem Jj4 : ∀ t : Nt, t.okN → t.mass ≤ (shw t).length := Nt.ind fun kind text names kids ih ho => by
 cases ho with
 | leaf _ _ hk ht =>
  have h3 := JgF text
  rw [Jah hk]; simp only [Nt.mass, Ja9, Jaf, List.length_cons]; omega
 | dir _ _ _ ht hl hc hn hks =>
  have := Jfp kids names hl fun t hm => ih t hm (hks t hm)
  rw [Ja5]; simp only [Nt.mass, List.length_cons, List.length_append]; omega
def Jj5 (s : S) (t : Nt) : Prop := t.okN ∧ QQ t = true ∧ s.toList = shw t
def noN : Nt := .mk 0 ⟨0, 0⟩ [] []
structure ParseR (s : S) (st : St) (v : V) (st' : St) (cs : List V) (t : Nt) (ok : Bool) : Prop where
 v : v = .tup [.agg cs, .int .i64 ((cond ok 0 4 : Nat) : Int)]
 f : Fresh st st' cs t
 y : ok = true → Jj5 s t
 n : ok = false → t = noN ∧ ∀ t, ¬ Jj5 s t
theorem JbZ (s : S) : JbI Tryz.prog 59 [(0, .str s)] = some (.agg [.str s, .bool false]) := by kernel_rfl
theorem Jab (b : Bool) : QB (.bool b) = true := rfl
variable [Memo] [NY] [NZ]
theorem Jk9 (gl : Gl) (hg : gl.get 1 = some powV) (hg2 : gl.get 2 = some errS) (hg3 : gl.get 3 = some errR) (rb : Nat) : ∀ k : Nat, k ≤ 1000000000 → Jlz gl rb k := fun k => by
 induction k using Nat.strongRecOn with
 | ind k ih => exact fun hk st s bad hs hr => Jjc gl hg hg2 hg3 rb k hk (fun k' h => ih k' h (by omega)) st s bad hs hr
set_option maxHeartbeats 8000000 in
set_option maxRecDepth 100000 in
theorem JgG (gl : Gl) (hg : gl.get 1 = some powV) (hg2 : gl.get 2 = some errS) (hg3 : gl.get 3 = some errR) {aL : List V} (hh : Hits gl aL) (st : St) (s : S) (hs : s.n ≤ 1000000000) (hfit : ∀ t : Nt, t.okN → s.toList = shw t → t.fit) :
  Says Tryz.prog gl 13 [.str s] st (fun v st' => (∃ cs t ok, ParseR s st v st' cs t ok) ∧ Keep st st') := by
 refine Qm (NY.no _ rfl rfl rfl _ _) Tryz.func13 rfl (by kernel_rfl) fun R hR K gr gn => ?_
 generalize hfr : JJ gl [.str s] = fr
 have hF : Fs gl [(0, .str s)] fr := by subst hfr; simp [Fs]
 simp only [Fs] at hF
 clear hfr
 have kq := Qk st [.int .u8 0, .str ⟨0, 0⟩, .nils, .nils] 25
 have hb := QE st [.int .u8 0, .str ⟨0, 0⟩, .nils, .nils] 25
 have bq := Q4 st [.int .u8 0, .str ⟨0, 0⟩, .nils, .nils] 25
 have cq := Jai st [.int .u8 0, .str ⟨0, 0⟩, .nils, .nils] 25
 generalize Jan st [.int .u8 0, .str ⟨0, 0⟩, .nils, .nils] 25 = q at kq hb bq cq
 have ku := Qk q [.str s, .bool false] 59
 have eu := QE q [.str s, .bool false] 59
 have bu := Q4 q [.str s, .bool false] 59
 have cu := Jai q [.str s, .bool false] 59
 generalize Jan q [.str s, .bool false] 59 = u at ku eu bu cu
 have hr0 : RdB u q.ctr s false := ⟨bu, by omega⟩
 obtain ⟨v, s1, hc1, hq1, ho1⟩ := Says.use (Jk9 gl hg hg2 hg3 q.ctr s.n (by omega) u s false (Nat.le_refl _) hr0)
 obtain ⟨cs, t, r, bd, rfl, hfr, hrn, hr1, ht0, ht1⟩ := hq1.uni
 have cs1 := ho1.ctr
 have hcl := hfr.nr.len
 have hco := hfr.nr.ones
 have kw := Qk s1 [.int .u8 0, .str ⟨0, 0⟩, .nils, .nils] 25
 have ew := QE s1 [.int .u8 0, .str ⟨0, 0⟩, .nils, .nils] 25
 have bw := Q4 s1 [.int .u8 0, .str ⟨0, 0⟩, .nils, .nils] 25
 have cw := Jai s1 [.int .u8 0, .str ⟨0, 0⟩, .nils, .nils] 25
 generalize Jan s1 [.int .u8 0, .str ⟨0, 0⟩, .nils, .nils] 25 = w at kw ew bw cw
 obtain ⟨w2, hw, bw2, ow⟩ := Ja4 bw rfl (cs := cs) hcl hco
 have cw2 := ow.ctr
 have hr2 := (hr1.keep kw).only ow (by omega)
 have hfr2 : Fresh u w2 cs t := hfr.stab (by omega) fun j h1 h2 => (ow.box j (by omega)).trans (kw.box j h2)
 have l0 := hr2.l0
 have l1 := hr2.l1
 have l5 := Jac bw2 hcl
 have hkk : Keep st w2 := ⟨by omega, fun j hj => by rw [ow.box j (by omega), kw.box j (by omega), ho1.box j (by omega) (by omega), ku.box j (by omega), kq.box j hj]⟩
 have b2 : w2.box.get st.ctr = _ := (ow.box st.ctr (by omega)).trans ((kw.box st.ctr (by omega)).trans ((ho1.box st.ctr (by omega) (by omega)).trans ((ku.box st.ctr (by omega)).trans bq)))
 have hsm := Jam r
 have hz : ∀ {s' : St}, Keep w2 s' → (bd = true ∨ r.n ≠ 0 ∨ QQ t = false) → ∃ s3, Q3 Tryz.prog s' 25 (.ptr st.ctr 0) (.agg [.int .u8 0, .str ⟨0, 0⟩, .nils, .nils]) = some s3 ∧ Qo Tryz.prog s3 25 (.ptr st.ctr 0) = some (.agg [.int .u8 0, .str ⟨0, 0⟩, .nils, .nils]) ∧ ParseR s st (.tup [.agg [.int .u8 0, .str ⟨0, 0⟩, .nils, .nils], .int .i64 4]) s3 [.int .u8 0, .str ⟨0, 0⟩, .nils, .nils] noN false ∧ Keep st s3 := fun {s'} k hbad => by
  obtain ⟨s3, w3, b3, o3⟩ := Ja4 ((k.box st.ctr (by omega)).trans b2) rfl (cs := [.int .u8 0, .str ⟨0, 0⟩, .nils, .nils]) rfl rfl
  refine ⟨s3, w3, Jac b3 rfl, ⟨rfl, Fresh.leaf (k := 0) (by omega) ⟨0, 0⟩, (fun h => by cases h), fun _ => ⟨rfl, fun t' hp => ?_⟩⟩, ⟨Nat.le_trans hkk.ctr (Nat.le_trans k.ctr o3.ctr), fun j hj => by rw [o3.box j (by omega), k.box j (by omega), hkk.box j hj]⟩⟩
  obtain ⟨p1, p2, p3⟩ := hp
  cases bd with
  | true => exact ht1 rfl rfl t' [] p1 (by rw [p3]; simp)
  | false =>
   obtain ⟨_, a2, a3⟩ := ht0 rfl
   have heq : shw t' ++ [] = shw t ++ r.toList := by rw [List.append_nil, ← p3, a3]
   obtain ⟨c1, c2⟩ := Jc5 t' p1 t a2 _ _ heq
   rcases hbad with h | h | h
   ·cases h
   ·exact h (by rw [← S.len, ← c2]; rfl)
   ·exact absurd p2 (by rw [JhI t' t c1, h]; decide)
 obtain ⟨E, hE⟩ : ∃ b, decide (r.n = 0) = b := ⟨_, rfl⟩
 rw [hE] at hsm
 refine Ks_ (Ka_ (gs := [none, none]) fun K1 gK => ?_)
 simp (disch := omega) [Qb, Ja, Ql, JE, JF, hb]
 refine gK _ _ (Ks_ (Ka_ (gs := [none, none, none, none]) fun K1 gK => ?_))
 simp (disch := omega) [hF, Ja, JE, Jab, JbZ, eu, Jl]
 refine gK _ _ (Ks_ (Ka_ (gs := [none, none, none, none]) fun K1 gK => ?_))
 simp (disch := omega) [hF, Qb, Ja, Ql, JE, JF, hc1, ew, hw]
 refine gK _ _ ?_
 cases bd with
 | true =>
  obtain ⟨s3, w3, l3, hp, hk3⟩ := hz (.refl _) (.inl rfl)
  refine Ks_ (Ks_ (Ka_ (gs := [none, none, none, none, none, some (some 15, false), some (some 15, false), some (some 15, false), some (some 15, false), some (some 15, false), none, none, some (some 22, false), some (some 22, false), some (some 22, false), none]) fun K1 gK => ?_))
  simp (disch := omega) [fR1, l1]
  refine gK _ _ (Kt_ (by simp (disch := omega) []) (Ks_ (Ka_ (gs := [none, none, none]) fun K1 gK => ?_)))
  simp (disch := omega) [Jl, JB, w3]
  refine gK _ _ (Kq_ (gr _ _ ?_))
  simp [JR, Tryz.f13, hF, l3]
  refine hR _ _ ?_
  exact ⟨⟨_, _, _, hp⟩, hk3⟩
 | false =>
  cases E with
  | true =>
   have hE := of_decide_eq_true hE
   obtain ⟨_, a2, a3⟩ := ht0 rfl
   have hrl : r.toList = [] := List.eq_nil_of_length_eq_zero (by rw [S.len]; exact hE)
   rw [hrl, List.append_nil] at a3
   have hfit := hfit t a2 a3
   obtain ⟨v, s4, hc4, rfl, hk4⟩ := Says.use (JcP gl hh t hfit w2 cs hfr2.nr)
   obtain ⟨WN, hWN⟩ : ∃ b, QQ t = b := ⟨_, rfl⟩
   rw [hWN] at hc4
   cases WN with
   | true =>
    have l6 := Jac ((hk4.box s1.ctr (by omega)).trans bw2) hcl
    obtain ⟨s5, w5, b5, o5⟩ := Ja4 ((hk4.box st.ctr (by omega)).trans b2) rfl (cs := cs) hcl hco
    have l7 := Jac b5 hcl
    have c4 := hk4.ctr
    refine Ks_ (Ks_ (Ka_ (gs := [none, none, none, none, none, some (some 15, false), some (some 15, false), some (some 15, false), some (some 15, false), some (some 15, false), none, none, some (some 22, false), some (some 22, false), some (some 22, false), none]) fun K1 gK => ?_))
    simp (disch := omega) [hF, fR0, fR1, l0, l1, hsm, l5, hc4]
    refine gK _ _ (Kf_ (by simp (disch := omega) []) (Kk_ (Ks_ (Ka_ (gs := [none, none, none]) fun K1 gK => ?_))))
    simp (disch := omega) [l6, w5]
    refine gK _ _ (Kq_ (gr _ _ ?_))
    simp [JR, Tryz.f13, hF, l7]
    refine hR _ _ ?_
    exact ⟨⟨cs, t, true, rfl, (hfr2.stab (by have := o5.ctr; omega) fun j h1 h2 => (o5.box j (by omega)).trans (hk4.box j h2)).from (by omega), fun _ => ⟨a2, hWN, a3⟩, fun h => by cases h⟩, ⟨by have := o5.ctr; omega, fun j hj => by rw [o5.box j (by omega), hk4.box j (by omega), hkk.box j hj]⟩⟩
   | false =>
    obtain ⟨s3, w3, l3, hp, hk3⟩ := hz hk4 (.inr (.inr hWN))
    refine Ks_ (Ks_ (Ka_ (gs := [none, none, none, none, none, some (some 15, false), some (some 15, false), some (some 15, false), some (some 15, false), some (some 15, false), none, none, some (some 22, false), some (some 22, false), some (some 22, false), none]) fun K1 gK => ?_))
    simp (disch := omega) [hF, fR0, fR1, l0, l1, hsm, l5, hc4]
    refine gK _ _ (Kt_ (by simp (disch := omega) []) (Ks_ (Ka_ (gs := [none, none, none]) fun K1 gK => ?_)))
    simp (disch := omega) [Jl, JB, w3]
    refine gK _ _ (Kq_ (gr _ _ ?_))
    simp [JR, Tryz.f13, hF, l3]
    refine hR _ _ ?_
    exact ⟨⟨_, _, _, hp⟩, hk3⟩
  | false =>
   obtain ⟨s3, w3, l3, hp, hk3⟩ := hz (.refl _) (.inr (.inl (of_decide_eq_false hE)))
   refine Ks_ (Ks_ (Ka_ (gs := [none, none, none, none, none, some (some 15, false), some (some 15, false), some (some 15, false), some (some 15, false), some (some 15, false), none, none, some (some 22, false), some (some 22, false), some (some 22, false), none]) fun K1 gK => ?_))
   simp (disch := omega) [fR0, fR1, l0, l1, hsm]
   refine gK _ _ (Kt_ (by simp (disch := omega) []) (Ks_ (Ka_ (gs := [none, none, none]) fun K1 gK => ?_)))
   simp (disch := omega) [Jl, JB, w3]
   refine gK _ _ (Kq_ (gr _ _ ?_))
   simp [JR, Tryz.f13, hF, l3]
   refine hR _ _ ?_
   exact ⟨⟨_, _, _, hp⟩, hk3⟩
end Go.Vm
