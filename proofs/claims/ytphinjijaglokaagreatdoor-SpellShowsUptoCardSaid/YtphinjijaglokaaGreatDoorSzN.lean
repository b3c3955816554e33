/- Lines that tell the facts: plain. -/
import Derived.Test.YtphinjijaglokaaGreatDoorSzA
import Derived.Test.YtphinjijaglokaaGreatDoorSzM
namespace Go.Vm
open Go Go.Proofs Go.Pa
def Jmg (s : S) : Prop := s.toList ≠ [] ∧ ∀ b ∈ s.toList, b ≠ 47
inductive FKd (f : Fw) : Prop where
 | any (h0 : f.known = false) (h1 : f.kind = 0) (h2 : f.rest = 0) (h3 : f.beside = 0) (h : Jjh f = [97, 110, 121])
 | absent (h0 : f.known = true) (h1 : f.kind = 0) (h2 : f.rest = 0) (h3 : f.beside = 0) (h : Jjh f = [97, 98, 115, 101, 110, 116])
 | file (h0 : f.known = true) (h1 : f.kind = 1) (h2 : f.rest = 0) (h3 : f.beside = 0) (h : Jjh f = [102, 105, 108, 101])
 | link (h0 : f.known = true) (h1 : f.kind = 3) (h2 : f.rest = 0) (h3 : f.beside = 0) (h : Jjh f = [108, 105, 110, 107])
 | whole (h0 : f.known = true) (h1 : f.kind = 2) (h2 : f.rest = 1) (h3 : f.beside = 0) (h : Jjh f = [100, 105, 114, 32, 119, 104, 111, 108, 101])
 | more (h0 : f.known = true) (h1 : f.kind = 2) (h2 : f.rest = 2) (h3 : 0 ≤ f.beside ∧ f.beside ≤ 60) (h : Jjh f = [100, 105, 114, 32, 109, 111, 114, 101, 32] ++ QW f.beside.toNat)
 | dir (h0 : f.known = true) (h1 : f.kind = 2) (h2 : f.rest = 0) (h3 : f.beside = 0) (h : Jjh f = [100, 105, 114])
end Go.Vm
namespace Go.Vm
open Go Go.Proofs Go.Pa
end Go.Vm
namespace Go.Vm
open Go Go.Proofs Go.Pa
abbrev tl (p : List S) : List (List UInt8) := p.map S.toList
end Go.Vm
namespace Go.Vm
open Go Go.Proofs Go.Pa
theorem Jiu {α : Type} {p : α → α → Bool} : ∀ {l m : List α}, Jbi p l m = true ↔ l.length = m.length ∧ ∀ k (h : k < l.length) (h' : k < m.length), p l[k] m[k] = true
 | [], [] => by simp [Jbi]
 | [], _ :: _ => by simp [Jbi]
 | _ :: _, [] => by simp [Jbi]
 | a :: x, b :: y => by
  have ih := Jiu (p := p) (l := x) (m := y)
  simp only [Jbi, Bool.and_eq_true, ih, List.length_cons]
  constructor
  ·rintro ⟨h1, h2, h3⟩
   refine ⟨by omega, fun k h h' => ?_⟩
   cases k with
   | zero => exact h1
   | succ k => exact h3 k (by omega) (by omega)
  ·rintro ⟨h1, h2⟩
   exact ⟨h2 0 (by omega) (by omega), by omega, fun k h h' => h2 (k + 1) (by omega) (by omega)⟩
end Go.Vm
namespace Go.Vm
open Go Go.Proofs Go.Pa
theorem JjI {a b : S} (h : a.toList = b.toList) : a.n = b.n := by rw [← S.len, ← S.len, h]
theorem JkD {a b : List S} (h : Jbi S.same a b = true) : a.length = b.length ∧ ∀ i, (a.getD i ⟨0, 0⟩).toList = (b.getD i ⟨0, 0⟩).toList := by
 obtain ⟨h1, h2⟩ := Jiu.1 h
 refine ⟨h1, fun i => ?_⟩
 by_cases hi : i < a.length
 ·rw [JbJ hi, JbJ (show i < b.length by omega)]
  have := h2 i hi (by omega)
  rwa [S.same_eq, beq_iff_eq] at this
 ·rw [List.getD_eq_getElem?_getD, List.getD_eq_getElem?_getD, List.getElem?_eq_none (by omega), List.getElem?_eq_none (by omega)]
theorem Jk6 {a b c d : S} (h1 : a.toList = b.toList) (h2 : c.toList = d.toList) : leS a c = leS b d := by
 unfold leS; rw [S.less_eq, S.less_eq, S.same_eq, S.same_eq, h1, h2]
theorem Jiv {a b : S} (h : a.toList = b.toList) : Jbt a = Jbt b := by
 unfold Jbt
 rw [S.same_eq, S.same_eq, S.same_eq, S.same_eq, JjI h, h]
theorem Jiw {a b : List S} (h : Jbi S.same a b = true) : Jaz a = Jaz b := by
 obtain ⟨h1, h2⟩ := JkD h
 unfold Jaz
 rw [h1]
 exact List.all_congr rfl fun i => by unfold Jdu; rw [Jiv (h2 i), Jk6 (h2 i) (h2 (i - 1))]
theorem Jix {a b : S} (h : a.toList = b.toList) : Jdz a = Jdz b := by
 unfold Jdz noZ; rw [h, JjI h]
theorem Jf6 : ∀ {l m : List Nt}, JaX l m = true → l.length = m.length
 | [], [], _ => rfl
 | [], _ :: _, h => by simp [JaX] at h
 | _ :: _, [], h => by simp [JaX] at h
 | a :: l, b :: m, h => by
  simp only [JaX, Bool.and_eq_true] at h
  simp [Jf6 h.2]
theorem Jfd : ∀ {l m : List Nt}, (∀ t ∈ l, ∀ t', Jbs t t' = true → QA t = QA t') → JaX l m = true → Jbj l = Jbj m
 | [], [], _, _ => rfl
 | [], _ :: _, _, h => by simp [JaX] at h
 | _ :: _, [], _, h => by simp [JaX] at h
 | a :: l, b :: m, ih, h => by
  simp only [JaX, Bool.and_eq_true] at h
  simp only [Jbj, ih a (by simp) b h.1, Jfd (fun t ht => ih t (by simp [ht])) h.2]
theorem Jf7 : ∀ t t' : Nt, Jbs t t' = true → QA t = QA t' := Nt.ind fun kind text names kids ih t' h => by
 cases t' with
 | mk kind' text' names' kids' =>
  simp only [Jbs, Bool.and_eq_true, decide_eq_true_eq] at h
  obtain ⟨rfl, h2, h3, h4⟩ := h
  rw [S.same_eq, beq_iff_eq] at h2
  have h5 := Jfd (fun t ht => ih t ht) h4
  have h6 := Jf6 h4
  have h7 := (JkD h3).1
  simp only [QA, Jix h2, JjI h2, Jiw h3, h5, h6, h7]
end Go.Vm
namespace Go.Vm
open Go Go.Proofs Go.Pa
attribute [local simp] OkP QH OkS Qi OkG Qh Qp OkD JY Qr JI Jm Jq vop Js JB ev evs toV Jl Fr.dsTo Fr.glTo Fr.toNone Ji Jj Jk Qk QL Jd JD Jv V.undef JW JM J7 JX J3 J9 J8 Qa JH J4 J5 JZ JO Qb Jt Ju Jw Jz JE Jr JL JN JK Qq
theorem Jiy (s : S) : s.n + 2 ≤ (JaN s).length := by
 have := List.length_pos_iff.2 (Jdl s.n)
 rw [JaN]; simp [S.len]; omega
theorem Jha : ∀ (ks : List Nt) (ns : List S), ns.length = ks.length → (∀ t ∈ ks, t.mass ≤ (shw t).length) → JbI ns + JaH ks ≤ (Jak ks ns).length
 | [], [], _, _ => by simp [JbI, JaH]
 | [], _ :: _, h, _ => by simp at h
 | _ :: _, [], h, _ => by simp at h
 | t :: ks, s :: ns, h, ih => by
  have h1 := Jha ks ns (by simpa using h) fun u hu => ih u (by simp [hu])
  have h2 := ih t (by simp)
  have h3 := Jiy s
  simp only [JbI, JaH, Jak, List.length_append]; omega
theorem Jmh : ∀ t : Nt, t.okN → t.mass ≤ (shw t).length := Nt.ind fun kind text names kids ih ho => by
 cases ho with
 | leaf _ _ hk ht =>
  have h3 := Jiy text
  rw [Jaw hk]; simp only [Nt.mass, JbI, JaH, List.length_cons]; omega
 | dir _ _ _ ht hl hc hn hks =>
  have := Jha kids names hl fun t hm => ih t hm (hks t hm)
  rw [JbF]; simp only [Nt.mass, List.length_cons, List.length_append]; omega
def Jmi (s : S) (t : Nt) : Prop := t.okN ∧ QA t = true ∧ s.toList = shw t
def noN : Nt := .mk 0 ⟨0, 0⟩ [] []
structure ParseR (s : S) (st : St) (v : V) (st' : St) (cs : List V) (t : Nt) (ok : Bool) : Prop where
 v : v = .tup [.agg cs, .int .i64 ((cond ok 0 4 : Nat) : Int)]
 f : Fresh st st' cs t
 y : ok = true → Jmi s t
 n : ok = false → t = noN ∧ ∀ t, ¬ Jmi s t
theorem JcJ (s : S) : Jb7 Tryz.prog 59 [(0, .str s)] = some (.agg [.str s, .bool false]) := by kernel_rfl
theorem JaE (b : Bool) : Qn (.bool b) = true := rfl
variable [Memo] [NY] [NZ]
theorem JnP (gl : Gl) (hg : gl.get 1 = some powV) (hg2 : gl.get 2 = some errS) (hg3 : gl.get 3 = some errR) (rb : Nat) : ∀ k : Nat, k ≤ 1000000000 → Jou gl rb k := fun k => by
 induction k using Nat.strongRecOn with
 | ind k ih => exact fun hk st s bad hs hr => Jlc gl hg hg2 hg3 rb k hk (fun k' h => ih k' h (by omega)) st s bad hs hr
set_option maxHeartbeats 8000000 in
set_option maxRecDepth 100000 in
theorem Jmj (gl : Gl) (hg : gl.get 1 = some powV) (hg2 : gl.get 2 = some errS) (hg3 : gl.get 3 = some errR) {aL : List V} (hh : Hits gl aL) (st : St) (s : S) (hs : s.n ≤ 1000000000) (hfit : ∀ t : Nt, t.okN → s.toList = shw t → t.fit) :
  Says Tryz.prog gl 13 [.str s] st (fun v st' => (∃ cs t ok, ParseR s st v st' cs t ok) ∧ Keep st st') := by
 refine JS (NY.no _ rfl rfl rfl _ _) Tryz.func13 rfl (by kernel_rfl) fun R hR K gr gn => ?_
 generalize hfr : Jx gl [.str s] = fr
 have hF : Fs gl [(0, .str s)] fr := by subst hfr; simp [Fs]
 simp only [Fs] at hF
 clear hfr
 have kq := JJ st [.int .u8 0, .str ⟨0, 0⟩, .nils, .nils] 25
 have hb := Qc st [.int .u8 0, .str ⟨0, 0⟩, .nils, .nils] 25
 have bq := QF st [.int .u8 0, .str ⟨0, 0⟩, .nils, .nils] 25
 have cq := QO st [.int .u8 0, .str ⟨0, 0⟩, .nils, .nils] 25
 generalize Q4 st [.int .u8 0, .str ⟨0, 0⟩, .nils, .nils] 25 = q at kq hb bq cq
 have ku := JJ q [.str s, .bool false] 59
 have eu := Qc q [.str s, .bool false] 59
 have bu := QF q [.str s, .bool false] 59
 have cu := QO q [.str s, .bool false] 59
 generalize Q4 q [.str s, .bool false] 59 = u at ku eu bu cu
 have hr0 : RdB u q.ctr s false := ⟨bu, by omega⟩
 obtain ⟨v, s1, hc1, hq1, ho1⟩ := Says.use (JnP gl hg hg2 hg3 q.ctr s.n (by omega) u s false (Nat.le_refl _) hr0)
 obtain ⟨cs, t, r, bd, rfl, hfr, hrn, hr1, ht0, ht1⟩ := hq1.uni
 have cs1 := ho1.ctr
 have hcl := hfr.nr.len
 have hco := hfr.nr.ones
 have kw := JJ s1 [.int .u8 0, .str ⟨0, 0⟩, .nils, .nils] 25
 have ew := Qc s1 [.int .u8 0, .str ⟨0, 0⟩, .nils, .nils] 25
 have bw := QF s1 [.int .u8 0, .str ⟨0, 0⟩, .nils, .nils] 25
 have cw := QO s1 [.int .u8 0, .str ⟨0, 0⟩, .nils, .nils] 25
 generalize Q4 s1 [.int .u8 0, .str ⟨0, 0⟩, .nils, .nils] 25 = w at kw ew bw cw
 obtain ⟨w2, hw, bw2, ow⟩ := Jah bw rfl (cs := cs) hcl hco
 have cw2 := ow.ctr
 have hr2 := (hr1.keep kw).only ow (by omega)
 have hfr2 : Fresh u w2 cs t := hfr.stab (by omega) fun j h1 h2 => (ow.box j (by omega)).trans (kw.box j h2)
 have l0 := hr2.l0
 have l1 := hr2.l1
 have l5 := QZ bw2 hcl
 have hkk : Keep st w2 := ⟨by omega, fun j hj => by rw [ow.box j (by omega), kw.box j (by omega), ho1.box j (by omega) (by omega), ku.box j (by omega), kq.box j hj]⟩
 have b2 : w2.box.get st.ctr = _ := (ow.box st.ctr (by omega)).trans ((kw.box st.ctr (by omega)).trans ((ho1.box st.ctr (by omega) (by omega)).trans ((ku.box st.ctr (by omega)).trans bq)))
 have hsm := Jaj r
 have hz : ∀ {s' : St}, Keep w2 s' → (bd = true ∨ r.n ≠ 0 ∨ QA t = false) → ∃ s3, Q0 Tryz.prog s' 25 (.ptr st.ctr 0) (.agg [.int .u8 0, .str ⟨0, 0⟩, .nils, .nils]) = some s3 ∧ Qe Tryz.prog s3 25 (.ptr st.ctr 0) = some (.agg [.int .u8 0, .str ⟨0, 0⟩, .nils, .nils]) ∧ ParseR s st (.tup [.agg [.int .u8 0, .str ⟨0, 0⟩, .nils, .nils], .int .i64 4]) s3 [.int .u8 0, .str ⟨0, 0⟩, .nils, .nils] noN false ∧ Keep st s3 := fun {s'} k hbad => by
  obtain ⟨s3, w3, b3, o3⟩ := Jah ((k.box st.ctr (by omega)).trans b2) rfl (cs := [.int .u8 0, .str ⟨0, 0⟩, .nils, .nils]) rfl rfl
  refine ⟨s3, w3, QZ b3 rfl, ⟨rfl, Fresh.leaf (k := 0) (by omega) ⟨0, 0⟩, (fun h => by cases h), fun _ => ⟨rfl, fun t' hp => ?_⟩⟩, ⟨Nat.le_trans hkk.ctr (Nat.le_trans k.ctr o3.ctr), fun j hj => by rw [o3.box j (by omega), k.box j (by omega), hkk.box j hj]⟩⟩
  obtain ⟨p1, p2, p3⟩ := hp
  cases bd with
  | true => exact ht1 rfl rfl t' [] p1 (by rw [p3]; simp)
  | false =>
   obtain ⟨_, a2, a3⟩ := ht0 rfl
   have heq : shw t' ++ [] = shw t ++ r.toList := by rw [List.append_nil, ← p3, a3]
   obtain ⟨c1, c2⟩ := Jep t' p1 t a2 _ _ heq
   rcases hbad with h | h | h
   ·cases h
   ·exact h (by rw [← S.len, ← c2]; rfl)
   ·exact absurd p2 (by rw [Jf7 t' t c1, h]; decide)
 obtain ⟨E, hE⟩ : ∃ b, decide (r.n = 0) = b := ⟨_, rfl⟩
 rw [hE] at hsm
 refine Ks_ (Ka_ (gs := [none, none]) fun K1 gK => ?_)
 simp (disch := omega) [JG, Ja, Jh, Jf, Jg, hb]
 refine gK _ _ (Ks_ (Ka_ (gs := [none, none, none, none]) fun K1 gK => ?_))
 simp (disch := omega) [hF, Ja, Jf, JaE, JcJ, eu, Jc]
 refine gK _ _ (Ks_ (Ka_ (gs := [none, none, none, none]) fun K1 gK => ?_))
 simp (disch := omega) [hF, JG, Ja, Jh, Jf, Jg, hc1, ew, hw]
 refine gK _ _ ?_
 cases bd with
 | true =>
  obtain ⟨s3, w3, l3, hp, hk3⟩ := hz (.refl _) (.inl rfl)
  refine Ks_ (Ks_ (Ka_ (gs := [none, none, none, none, none, some (some 15, false), some (some 15, false), some (some 15, false), some (some 15, false), some (some 15, false), none, none, some (some 22, false), some (some 22, false), some (some 22, false), none]) fun K1 gK => ?_))
  simp (disch := omega) [fR1, l1]
  refine gK _ _ (Kt_ (by simp (disch := omega) []) (Ks_ (Ka_ (gs := [none, none, none]) fun K1 gK => ?_)))
  simp (disch := omega) [Jc, Je, w3]
  refine gK _ _ (Kq_ (gr _ _ ?_))
  simp [JC, Tryz.f13, hF, l3]
  refine hR _ _ ?_
  exact ⟨⟨_, _, _, hp⟩, hk3⟩
 | false =>
  cases E with
  | true =>
   have hE := of_decide_eq_true hE
   obtain ⟨_, a2, a3⟩ := ht0 rfl
   have hrl : r.toList = [] := List.eq_nil_of_length_eq_zero (by rw [S.len]; exact hE)
   rw [hrl, List.append_nil] at a3
   have hfit := hfit t a2 a3
   obtain ⟨v, s4, hc4, rfl, hk4⟩ := Says.use (Jih gl hh t hfit w2 cs hfr2.nr)
   obtain ⟨WN, hWN⟩ : ∃ b, QA t = b := ⟨_, rfl⟩
   rw [hWN] at hc4
   cases WN with
   | true =>
    have l6 := QZ ((hk4.box s1.ctr (by omega)).trans bw2) hcl
    obtain ⟨s5, w5, b5, o5⟩ := Jah ((hk4.box st.ctr (by omega)).trans b2) rfl (cs := cs) hcl hco
    have l7 := QZ b5 hcl
    have c4 := hk4.ctr
    refine Ks_ (Ks_ (Ka_ (gs := [none, none, none, none, none, some (some 15, false), some (some 15, false), some (some 15, false), some (some 15, false), some (some 15, false), none, none, some (some 22, false), some (some 22, false), some (some 22, false), none]) fun K1 gK => ?_))
    simp (disch := omega) [hF, fR0, fR1, l0, l1, hsm, l5, hc4]
    refine gK _ _ (Kf_ (by simp (disch := omega) []) (Kk_ (Ks_ (Ka_ (gs := [none, none, none]) fun K1 gK => ?_))))
    simp (disch := omega) [l6, w5]
    refine gK _ _ (Kq_ (gr _ _ ?_))
    simp [JC, Tryz.f13, hF, l7]
    refine hR _ _ ?_
    exact ⟨⟨cs, t, true, rfl, (hfr2.stab (by have := o5.ctr; omega) fun j h1 h2 => (o5.box j (by omega)).trans (hk4.box j h2)).from (by omega), fun _ => ⟨a2, hWN, a3⟩, fun h => by cases h⟩, ⟨by have := o5.ctr; omega, fun j hj => by rw [o5.box j (by omega), hk4.box j (by omega), hkk.box j hj]⟩⟩
   | false =>
    obtain ⟨s3, w3, l3, hp, hk3⟩ := hz hk4 (.inr (.inr hWN))
    refine Ks_ (Ks_ (Ka_ (gs := [none, none, none, none, none, some (some 15, false), some (some 15, false), some (some 15, false), some (some 15, false), some (some 15, false), none, none, some (some 22, false), some (some 22, false), some (some 22, false), none]) fun K1 gK => ?_))
    simp (disch := omega) [hF, fR0, fR1, l0, l1, hsm, l5, hc4]
    refine gK _ _ (Kt_ (by simp (disch := omega) []) (Ks_ (Ka_ (gs := [none, none, none]) fun K1 gK => ?_)))
    simp (disch := omega) [Jc, Je, w3]
    refine gK _ _ (Kq_ (gr _ _ ?_))
    simp [JC, Tryz.f13, hF, l3]
    refine hR _ _ ?_
    exact ⟨⟨_, _, _, hp⟩, hk3⟩
  | false =>
   obtain ⟨s3, w3, l3, hp, hk3⟩ := hz (.refl _) (.inr (.inl (of_decide_eq_false hE)))
   refine Ks_ (Ks_ (Ka_ (gs := [none, none, none, none, none, some (some 15, false), some (some 15, false), some (some 15, false), some (some 15, false), some (some 15, false), none, none, some (some 22, false), some (some 22, false), some (some 22, false), none]) fun K1 gK => ?_))
   simp (disch := omega) [fR0, fR1, l0, l1, hsm]
   refine gK _ _ (Kt_ (by simp (disch := omega) []) (Ks_ (Ka_ (gs := [none, none, none]) fun K1 gK => ?_)))
   simp (disch := omega) [Jc, Je, w3]
   refine gK _ _ (Kq_ (gr _ _ ?_))
   simp [JC, Tryz.f13, hF, l3]
   refine hR _ _ ?_
   exact ⟨⟨_, _, _, hp⟩, hk3⟩
end Go.Vm
