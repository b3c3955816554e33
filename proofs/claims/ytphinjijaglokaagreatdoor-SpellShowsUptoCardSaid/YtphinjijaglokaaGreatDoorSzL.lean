/- Numbers and texts at a text's begin: by the program. -/
import Derived.Test.YtphinjijaglokaaGreatDoorSzK
namespace Go.Vm
open Go Go.Proofs Go.Pa
attribute [local simp] OkP QH OkS Qi OkG Qh Qp OkD JY Qr JI Jm Jq vop Js JB ev evs toV Jl Fr.dsTo Fr.glTo Fr.toNone Ji Jj Jk Qk QL Jd JD Jv V.undef JW JM J7 JX J3 J9 J8 Qa JH J4 J5 JZ JO Qb Jt Ju Jw Jz JE Jr JL JN JK Qq
def NumAt (s : List UInt8) (n : Nat) (rest : List UInt8) : Prop := n < 1000000 ∧ s = QW n ++ 58 :: rest
theorem JbV (n : Nat) : (58 : UInt8) ∉ QW n := fun h => by
 have := Jeh _ _ _ h
 have h2 : (58 : UInt8).toNat = 58 := rfl
 omega
theorem JcB : ∀ {a a' r r' : List UInt8}, 58 ∉ a → 58 ∉ a' → a ++ 58 :: r = a' ++ 58 :: r' → a = a' ∧ r = r'
 | [], [], r, r', _, _, h => by simpa using h
 | [], b :: a', r, r', _, h2, h => by
  simp only [List.nil_append, List.cons_append, List.cons.injEq] at h
  exact absurd (by rw [← h.1]; simp) h2
 | b :: a, [], r, r', h1, _, h => by
  simp only [List.nil_append, List.cons_append, List.cons.injEq] at h
  exact absurd (by rw [h.1]; simp) h1
 | b :: a, b' :: a', r, r', h1, h2, h => by
  simp only [List.cons_append, List.cons.injEq] at h
  obtain ⟨h3, h4⟩ := h
  obtain ⟨h5, h6⟩ := JcB (fun hh => h1 (List.mem_cons_of_mem _ hh)) (fun hh => h2 (List.mem_cons_of_mem _ hh)) h4
  exact ⟨by rw [h3, h5], h6⟩
theorem Jeo {m n : Nat} (h : QW m = QW n) : m = n := by rw [← JeQ m, h, JeQ]
theorem NumAt.uniq {s : List UInt8} {n n' : Nat} {r r' : List UInt8} (h : NumAt s n r) (h' : NumAt s n' r') : n = n' ∧ r = r' := by
 obtain ⟨h1, h2⟩ := JcB (JbV n) (JbV n') (h.2.symm.trans h'.2)
 exact ⟨Jeo h1, h2⟩
def JpN (s : S) (v : V) : Prop := ∃ (a b : S) (I : Bool), v = .tup [.str a, .str b, .bool I] ∧ (I = true → s.toList = a.toList ++ 58 :: b.toList ∧ 58 ∉ a.toList) ∧ (I = false → 58 ∉ s.toList) ∧ a.n ≤ s.n
structure RdB (st : St) (rb : Nat) (s : S) (bad : Bool) : Prop where
 b : st.box.get rb = some (.cells [.str s, .bool bad] 59 true (some 0))
 lt : rb < st.ctr
theorem RdB.keep {st st' : St} {rb : Nat} {s : S} {bad : Bool} (h : RdB st rb s bad) (k : Keep st st') : RdB st' rb s bad := ⟨by rw [k.box rb h.lt]; exact h.b, Nat.lt_of_lt_of_le h.lt k.ctr⟩
theorem fR0 (id : Nat) : QK Tryz.prog 59 (.ptr id 0) 0 = some (.ptr id 0) := by kernel_rfl
theorem fR1 (id : Nat) : QK Tryz.prog 59 (.ptr id 0) 1 = some (.ptr id 1) := by kernel_rfl
theorem RdB.l0 {st : St} {rb : Nat} {s : S} {bad : Bool} (h : RdB st rb s bad) : Qe Tryz.prog st 9 (.ptr rb 0) = some (.str s) := Qd (off := 0) a9 z9 h.b rfl
theorem RdB.l1 {st : St} {rb : Nat} {s : S} {bad : Bool} (h : RdB st rb s bad) : Qe Tryz.prog st 4 (.ptr rb 1) = some (.bool bad) := Qd (off := 1) a4 z4 h.b rfl
def RdO (rb : Nat) (st st' : St) : Prop := Outs (fun i => i = rb) st st'
theorem RdO.of {rb : Nat} {a b : St} (k : Keep a b) : RdO rb a b := Outs.of k
theorem RdB.s0 {st : St} {rb : Nat} {s : S} {bad : Bool} (h : RdB st rb s bad) (r : S) : ∃ st', Q0 Tryz.prog st 9 (.ptr rb 0) (.str r) = some st' ∧ RdB st' rb r bad ∧ RdO rb st st' :=
 ⟨_, QR z9 h.b (by simp) rfl, ⟨by show (st.box.put rb _).get rb = _; rw [Tr.get_put, if_pos rfl]; rfl, h.lt⟩, ⟨Nat.le_refl _, fun i _ hi => by show (st.box.put rb _).get i = _; rw [Tr.get_put, if_neg hi]⟩⟩
theorem RdB.s1 {st : St} {rb : Nat} {s : S} {bad : Bool} (h : RdB st rb s bad) (x : Bool) : ∃ st', Q0 Tryz.prog st 4 (.ptr rb 1) (.bool x) = some st' ∧ RdB st' rb s x ∧ RdO rb st st' :=
 ⟨_, QR z4 h.b (by simp) rfl, ⟨by show (st.box.put rb _).get rb = _; rw [Tr.get_put, if_pos rfl]; rfl, h.lt⟩, ⟨Nat.le_refl _, fun i _ hi => by show (st.box.put rb _).get i = _; rw [Tr.get_put, if_neg hi]⟩⟩
def NumQ (rb : Nat) (s : S) (bad : Bool) (v : V) (st' : St) : Prop := (∃ (n : Nat) (r : S), NumAt s.toList n r.toList ∧ v = .int .i64 (n : Int) ∧ RdB st' rb r bad) ∨ ((∀ n r, ¬ NumAt s.toList n r) ∧ v = .int .i64 0 ∧ RdB st' rb s true)
variable [Memo] [NY]
set_option maxRecDepth 100000 in
theorem Joc (gl : Gl) (st : St) (s : S) (hs : s.n ≤ 1000000000) :
  Says Tryz.prog gl 79 [.str s, .str (S.ofList [58])] st (fun v st' => JpN s v ∧ Keep st st') := by
 refine JS (NY.no _ rfl rfl rfl _ _) Tryz.func79 rfl (by kernel_rfl) fun R hR K gr gn => ?_
 generalize hfr : Jx gl [.str s, .str (S.ofList [58])] = fr
 have hF : Fs gl [(0, .str s), (1, .str (S.ofList [58]))] fr := by subst hfr; simp [Fs]
 simp only [Fs] at hF
 clear hfr
 obtain ⟨v, s1, hc, rfl, hs1⟩ := Says.use (Jp7 gl st s)
 obtain rfl : s1 = st := hs1
 by_cases hm : 0 < s.toList.count 58
 ·
  obtain ⟨pre, rest, h1, h2, h3, _⟩ := JmY hm
  obtain ⟨k, hk⟩ : ∃ k, pre.length = k := ⟨_, rfl⟩
  rw [h3, hk] at hc
  have hkn : k + 1 ≤ s.n := by
   have := congrArg List.length h1
   rw [S.len] at this; simp at this; omega
  have g0 : ∀ kk, Jn Tryz.prog kk .geq 3 (.int .i64 (k : Int)) (.int .i64 0) = some (.bool true) := fun kk => by rw [Ja0, decide_eq_true (by omega)]
  have v1 := JeN (k' := .i64) (hi := k) Tryz.underlying9 (s := s) (by omega)
  have v2 := Jbe (k := .i64) (lo := k + 1) Tryz.underlying9 (s := s) (by omega)
  rw [show ((k + 1 : Nat) : Int) = (k : Int) + 1 by omega] at v2
  have c2 := Jbf s (i := k + 1) (by omega)
  have c1 : (s.cut 0 k).toList = s.toList.take k := by
   rw [S.toList_cut _ (by omega) (by omega)]; simp
  refine Ks_ (Ka_ (gs := [none, none, none]) fun K1 gK => ?_)
  simp (disch := omega) []
  refine gK _ _ (Ks_ (Ks_ (Ka_ (gs := [none, none, none, none]) fun K1 gK => ?_)))
  simp (disch := omega) [hF, hc]
  refine gK _ _ (Ks_ (Ka_ (gs := [none, none]) fun K1 gK => ?_))
  simp (disch := omega) [g0]
  refine gK _ _ (Kt_ (by simp (disch := omega) []) (Ks_ (Kh_ (b := [0, 0, 3, 0, 0, 0, 32, 112, 248, 7, 1023, 2047]) (gs := [none, none, none, none, none, none, none, none, none, none, none, none]) fun K1 gK => ?_)))
  simp (disch := omega) [hF, v1, v2, JbN]
  refine gK _ _ (Kq_ (gr _ _ ?_))
  simp [JC, Tryz.f79, hF]
  refine hR _ _ ?_
  exact ⟨⟨_, _, true, rfl, fun _ => ⟨by rw [c1, c2, h1, ← hk]; simp, by rw [c1, h1, ← hk]; simpa using h2⟩, (fun h => by cases h), by rw [Jgd]; omega⟩, Jc3 _ _⟩
 ·
  have hni : 58 ∉ s.toList := fun h => hm (List.count_pos_iff.2 h)
  have hge := JbR s.toList 58
  obtain ⟨w, hw⟩ : ∃ w, Lib.indexByte s.toList 58 = w := ⟨_, rfl⟩
  rw [hw] at hc hge
  have g0 : ∀ kk, Jn Tryz.prog kk .geq 3 (.int .i64 w) (.int .i64 0) = some (.bool false) := fun kk => by rw [Ja0, decide_eq_false (fun h => hni (hge.1 h))]
  refine Ks_ (Ka_ (gs := [none, none, none]) fun K1 gK => ?_)
  simp (disch := omega) []
  refine gK _ _ (Ks_ (Ks_ (Ka_ (gs := [none, none, none, none]) fun K1 gK => ?_)))
  simp (disch := omega) [hF, hc]
  refine gK _ _ (Ks_ (Ka_ (gs := [none, none]) fun K1 gK => ?_))
  simp (disch := omega) [g0]
  refine gK _ _ (Kf_ (by simp (disch := omega) []) (Kk_ (Ks_ (Ka_ (gs := [none, none, none, none]) fun K1 gK => ?_))))
  simp (disch := omega) [hF]
  refine gK _ _ (Kq_ (gr _ _ ?_))
  simp [JC, Tryz.f79, hF]
  refine hR _ _ ?_
  exact ⟨⟨_, _, false, rfl, (fun h => by cases h), fun _ => hni, Nat.le_refl _⟩, .refl _⟩
set_option maxRecDepth 100000 in
theorem Jpb (gl : Gl) (st : St) (s : S) (hs : s.n ≤ 1000000000) :
  Says Tryz.prog gl 67 [.str s, .str (S.ofList [58])] st (fun v st' => JpN s v ∧ Keep st st') := by
 refine JS (NY.no _ rfl rfl rfl _ _) Tryz.func67 rfl (by kernel_rfl) fun R hR K gr gn => ?_
 generalize hfr : Jx gl [.str s, .str (S.ofList [58])] = fr
 have hF : Fs gl [(0, .str s), (1, .str (S.ofList [58]))] fr := by subst hfr; simp [Fs]
 simp only [Fs] at hF
 clear hfr
 obtain ⟨v, s1, hc, ⟨a, b, I, rfl, hcr⟩, hk1⟩ := Says.use (Joc gl st s hs)
 refine Ks_ (Ka_ (gs := [none, none, none]) fun K1 gK => ?_)
 simp (disch := omega) []
 refine gK _ _ (Ks_ (Ka_ (gs := [none, none, none, none, none, none, none, none, none]) fun K1 gK => ?_))
 simp (disch := omega) [hF, hc]
 refine gK _ _ (Kq_ (gr _ _ ?_))
 simp [JC, Tryz.f67, hF]
 refine hR _ _ ?_
 exact ⟨⟨a, b, I, rfl, hcr⟩, hk1⟩
omit [Memo] [NY] in
theorem JpO {s a b : S} {n : Int} {I N : Bool} {t : S} (h1 : I = true → s.toList = a.toList ++ 58 :: b.toList ∧ 58 ∉ a.toList) (hI : I = true) (hN : N = true) (hn : 0 ≤ n) (hl : a.n ≤ 6) (hat : AtR a n N) (ht : t.toList = QW n.toNat) (hs : t.same a = true) : NumAt s.toList n.toNat b.toList := by
 have h3 := hat.a hl hN
 rw [S.same_eq, beq_iff_eq] at hs
 exact ⟨by omega, by rw [(h1 hI).1, ← hs, ht]⟩
omit [Memo] [NY] in
theorem Joz {s a b : S} {n : Int} {I N : Bool} (h1 : I = true → s.toList = a.toList ++ 58 :: b.toList ∧ 58 ∉ a.toList) (h2 : I = false → 58 ∉ s.toList) (hat : AtR a n N) (hb : ¬ (I = true ∧ N = true ∧ 0 ≤ n ∧ a.n ≤ 6 ∧ a.toList = QW n.toNat)) : ∀ m r, ¬ NumAt s.toList m r := fun m r hm => by
 cases I with
 | false => exact h2 rfl (by rw [hm.2]; simp)
 | true =>
  obtain ⟨h3, h4⟩ := h1 rfl
  obtain ⟨h5, h6⟩ := JcB h4 (JbV m) (h3.symm.trans hm.2)
  obtain ⟨h7, h8⟩ := hat.b m hm.1 h5
  refine hb ⟨rfl, h8, by omega, ?_, by rw [h7]; exact h5⟩
  have := JaP hm.1
  rw [← h5, S.len] at this
  exact this
variable [NZ]
set_option maxHeartbeats 4000000 in
set_option maxRecDepth 100000 in
theorem Jm8 (gl : Gl) (hg : gl.get 1 = some powV) (hg2 : gl.get 2 = some errS) (hg3 : gl.get 3 = some errR) (st : St) (rb : Nat) (s : S) (bad : Bool) (hr : RdB st rb s bad) (hs : s.n ≤ 1000000000) :
  Says Tryz.prog gl 55 [.ptr rb 0] st (fun v st' => NumQ rb s bad v st' ∧ RdO rb st st') := by
 refine JS (NY.no _ rfl rfl rfl _ _) Tryz.func55 rfl (by kernel_rfl) fun R hR K gr gn => ?_
 generalize hfr : Jx gl [.ptr rb 0] = fr
 have hF : Fs gl [(0, .ptr rb 0)] fr := by subst hfr; simp [Fs]
 simp only [Fs] at hF
 clear hfr
 have l0 := hr.l0
 obtain ⟨v, s1, hc, ⟨a, b, I, rfl, hI1, hI0, han⟩, hk1⟩ := Says.use (Jpb gl st s hs)
 obtain ⟨v, s2, hc2, ⟨n, e, N, rfl, hN, hat⟩, hk2⟩ := Says.use (JnZ gl hg2 hg3 s1 a (by omega))
 obtain ⟨L, hL⟩ : ∃ b, decide (n < 0) = b := ⟨_, rfl⟩
 obtain ⟨G, hG⟩ : ∃ b, decide (6 < a.n) = b := ⟨_, rfl⟩
 have eL : ∀ kk, Jn Tryz.prog kk .lss 3 (.int .i64 n) (.int .i64 0) = some (.bool L) := fun kk => by rw [← hL]; exact JaO
 have eG : ∀ kk, Jn Tryz.prog kk .gtr 3 (.int .i64 (a.n : Int)) (.int .i64 6) = some (.bool G) := fun kk => by rw [← hG]; exact JO
 refine Ks_ (Ka_ (gs := [none]) fun K1 gK => ?_)
 simp (disch := omega) []
 refine gK _ _ (Ks_ (Ka_ (gs := [none, none, none, none, none, none, none, none, none, none, none, none]) fun K1 gK => ?_))
 simp (disch := omega) [hF, l0, fR0, hc]
 refine gK _ _ (Ks_ (Ka_ (gs := [none, none, none, none, none, none, none]) fun K1 gK => ?_))
 simp (disch := omega) [hF, hc2]
 refine gK _ _ (Ks_ (Ks_ ?_))
 refine Km_ (fun fr st' => ∃ (Bad : Bool), Fs gl [(0, .ptr rb 0), (4, .str b), (6, .int .i64 n), (42, .bool Bad)] fr ∧ Keep s2 st' ∧ (Bad = false → 0 ≤ n ∧ NumAt s.toList n.toNat b.toList) ∧ (Bad = true → ∀ m r, ¬ NumAt s.toList m r)) ?_ ?_
 ·as_aux_lemma =>
  intro K1 gm1 go1
  refine Ka_ (gs := [none, none, none, some (some 24, false), some (some 24, false), none, none, some (some 28, false), some (some 28, false), none, none, some (some 32, false), some (some 32, false), some (some 32, false), none, none, some (some 37, false), some (some 37, false), some (some 37, false), some (some 37, false), none]) fun K1 gK => ?_
  refine OkG.cutK 7 (fun fr st' => Fs gl [(0, .ptr rb 0), (3, .str a), (4, .str b), (6, .int .i64 n), (28, .bool (!I || !N))] fr ∧ s2 = st') (by kernel_rfl) ?_ ?_
  ·as_aux_lemma =>
   intro Kc gKc
   simp only [List.take]
   cases I with
   | true =>
    simp (disch := omega) [isK, hN]
    exact gKc _ _ ⟨by simp [Fs, hF], rfl⟩
   | false =>
    simp (disch := omega) []
    exact gKc _ _ ⟨by simp [Fs, hF], rfl⟩
  ·as_aux_lemma =>
   clear hF
   rintro fr st' ⟨hF, rfl⟩
   simp only [Fs] at hF
   simp only [List.drop]
   obtain ⟨X, hX⟩ : ∃ b, (!I || !N) = b := ⟨_, rfl⟩
   rw [hX] at hF
   refine OkG.cutK 4 (fun fr st' => Fs gl [(0, .ptr rb 0), (3, .str a), (4, .str b), (6, .int .i64 n), (32, .bool (X || L))] fr ∧ s2 = st') (by kernel_rfl) ?_ ?_
   ·as_aux_lemma =>
    intro Kc gKc
    simp only [List.take]
    cases X with
    | true =>
     simp (disch := omega) [hF]
     exact gKc _ _ ⟨by simp [Fs, hF], rfl⟩
    | false =>
     simp (disch := omega) [hF, isK, eL]
     exact gKc _ _ ⟨by simp [Fs, hF], rfl⟩
   ·as_aux_lemma =>
    clear hF
    rintro fr st' ⟨hF, rfl⟩
    simp only [Fs] at hF
    simp only [List.drop]
    obtain ⟨Y, hY⟩ : ∃ b, (X || L) = b := ⟨_, rfl⟩
    rw [hY] at hF
    refine OkG.cutK 5 (fun fr st' => Fs gl [(0, .ptr rb 0), (3, .str a), (4, .str b), (6, .int .i64 n), (37, .bool (Y || G))] fr ∧ s2 = st') (by kernel_rfl) ?_ ?_
    ·as_aux_lemma =>
     intro Kc gKc
     simp only [List.take]
     cases Y with
     | true =>
      simp (disch := omega) [hF]
      exact gKc _ _ ⟨by simp [Fs, hF], rfl⟩
     | false =>
      simp (disch := omega) [hF, isK, eG, Jb]
      exact gKc _ _ ⟨by simp [Fs, hF], rfl⟩
    ·as_aux_lemma =>
     clear hF
     rintro fr st' ⟨hF, rfl⟩
     simp only [Fs] at hF
     simp only [List.drop]
     obtain ⟨Z, hZ⟩ : ∃ b, (Y || G) = b := ⟨_, rfl⟩
     rw [hZ] at hF
     cases Z with
     | true =>
      simp (disch := omega) [hF]
      refine gK _ _ ?_
      exact gm1 _ _ ⟨true, by simp [Fs, hF], .refl _, (fun h => by cases h), fun _ => Joz hI1 hI0 hat (fun ⟨a1, a2, a3, a4, _⟩ => by rw [← hY, ← hX, a1, a2] at hZ; rw [← hL, ← hG, decide_eq_false (by omega), decide_eq_false (by omega)] at hZ; cases hZ)⟩
     | false =>
      have hz : I = true ∧ N = true ∧ 0 ≤ n ∧ a.n ≤ 6 := by
       rw [← hY, ← hX, ← hL, ← hG] at hZ
       simp only [Bool.or_eq_false_iff, Bool.not_eq_false', decide_eq_false_iff_not] at hZ
       obtain ⟨⟨⟨y1, y2⟩, y3⟩, y4⟩ := hZ
       exact ⟨y1, y2, by omega, by omega⟩
      obtain ⟨z1, z2, z3, z4⟩ := hz
      have hn6 := hat.a z4 z2
      obtain ⟨v, s3, hc3, ⟨t, rfl, ht⟩, hk3⟩ := Says.use (Jev gl hg s2 n.toNat (by omega))
      rw [show ((n.toNat : Nat) : Int) = n by omega] at hc3
      obtain ⟨Q, hQ⟩ : ∃ b, t.same a = b := ⟨_, rfl⟩
      simp (disch := omega) [hF, isK, hc3, hQ]
      refine gK _ _ ?_
      exact gm1 _ _ ⟨!Q, by simp [Fs, hF], hk3, (fun h => ⟨z3, JpO hI1 z1 z2 z3 z4 hat ht (by cases Q; cases h; exact hQ)⟩), fun h => Joz hI1 hI0 hat (fun ⟨_, _, _, _, a5⟩ => by have : t.same a = true := (by rw [S.same_eq, ht, a5]; simp); rw [this] at hQ; subst hQ; cases h)⟩
 ·as_aux_lemma =>
  clear hF
  rintro fr st' ⟨Bad, hF, hk3, hB0, hB1⟩
  simp only [Fs] at hF
  have hr3 := hr.keep (hk1.trans (hk2.trans hk3))
  cases Bad with
  | true =>
   refine Kt_ (by simp (disch := omega) [hF]) ?_
   obtain ⟨s4, w4, hr4, ho4⟩ := hr3.s1 true
   refine Ks_ (Ka_ (gs := [none, none, none, none]) fun K1 gK => ?_)
   simp (disch := omega) [hF, fR1, w4]
   refine gK _ _ (Ks_ (Ka_ (gs := [none]) fun K1 gK => ?_))
   simp (disch := omega) []
   refine gK _ _ (Kq_ (gr _ _ ?_))
   simp [JC, Tryz.f55, hF]
   refine hR _ _ ?_
   exact ⟨.inr ⟨hB1 rfl, rfl, hr4⟩, (RdO.of (hk1.trans (hk2.trans hk3))).trans ho4⟩
  | false =>
   refine Kf_ (by simp (disch := omega) [hF]) ?_
   obtain ⟨s4, w4, hr4, ho4⟩ := hr3.s0 b
   obtain ⟨z3, hnum⟩ := hB0 rfl
   refine Kk_ (Ks_ (Ka_ (gs := [none, none, none, none, none]) fun K1 gK => ?_))
   simp (disch := omega) [hF, fR0, w4]
   refine gK _ _ (Ks_ (Ka_ (gs := [none, none]) fun K1 gK => ?_))
   simp (disch := omega) [hF]
   refine gK _ _ (Kq_ (gr _ _ ?_))
   simp [JC, Tryz.f55, hF]
   refine hR _ _ ?_
   exact ⟨.inl ⟨n.toNat, b, hnum, by rw [show ((n.toNat : Nat) : Int) = n by omega], hr4⟩, (RdO.of (hk1.trans (hk2.trans hk3))).trans ho4⟩
end Go.Vm
namespace Go.Vm
open Go Go.Proofs Go.Pa
inductive Nt.okN : Nt → Prop
 | leaf (k : Nat) (text : S) (hk : k = 1 ∨ k = 3) (ht : text.n < 1000000) : Nt.okN (.mk k text [] [])
 | dir (text : S) (names : List S) (kids : List Nt) (ht : text.n = 0) (hl : names.length = kids.length) (hc : names.length < 1000000) (hn : ∀ s ∈ names, s.n < 1000000) (hk : ∀ t ∈ kids, Nt.okN t) : Nt.okN (.mk 2 text names kids)
mutual
def Jbs : Nt → Nt → Bool
 | .mk k a ns ks, t' => match t' with
  | .mk k' a' ns' ks' => decide (k = k') && (a.same a' && (Jbi S.same ns ns' && JaX ks ks'))
def JaX : List Nt → List Nt → Bool
 | [], l => l.isEmpty
 | t :: r, l => match l with
  | [] => false
  | t' :: r' => Jbs t t' && JaX r r'
end
theorem JeV {a b : S} {r r' : List UInt8} (h : JaN a ++ r = JaN b ++ r') : a.toList = b.toList ∧ r = r' := by
 have h' : QW a.n ++ 58 :: (a.toList ++ r) = QW b.n ++ 58 :: (b.toList ++ r') := by simpa [JaN] using h
 obtain ⟨h1, h2⟩ := JcB (JbV _) (JbV _) h'
 exact List.append_inj h2 (by rw [S.len, S.len, Jeo h1])
theorem Jaw {k : Nat} {a : S} {ns : List S} {ks : List Nt} (hk : k = 1 ∨ k = 3) : shw (.mk k a ns ks) = UInt8.ofNat (cond (decide (k = 1)) 102 108) :: JaN a := by
 rcases hk with rfl | rfl <;> simp [shw]
theorem JbF {a : S} {ns : List S} {ks : List Nt} : shw (.mk 2 a ns ks) = 100 :: (QW ns.length ++ 58 :: Jak ks ns) := by simp [shw]
theorem Jdm {a b : S} (h : a.toList = b.toList) : a.same b = true := by rw [S.same_eq, h]; simp
theorem JeW : ∀ (ks : List Nt) (ns : List S) (ks' : List Nt) (ns' : List S) (r r' : List UInt8), (∀ t ∈ ks, ∀ t', t'.okN → ∀ r r', shw t ++ r = shw t' ++ r' → Jbs t t' = true ∧ r = r') → (∀ t ∈ ks', t.okN) → ns.length = ks.length → ns'.length = ks'.length → ks.length = ks'.length →
  Jak ks ns ++ r = Jak ks' ns' ++ r' → Jbi S.same ns ns' = true ∧ JaX ks ks' = true ∧ r = r'
 | [], [], [], [], r, r', _, _, _, _, _, h => ⟨rfl, rfl, by simpa [Jak] using h⟩
 | [], _ :: _, _, _, _, _, _, _, h, _, _, _ => by simp at h
 | [], [], _ :: _, _, _, _, _, _, _, _, h, _ => by simp at h
 | [], [], [], _ :: _, _, _, _, _, _, h, _, _ => by simp at h
 | _ :: _, [], _, _, _, _, _, _, h, _, _, _ => by simp at h
 | _ :: _, _ :: _, [], _, _, _, _, _, _, _, h, _ => by simp at h
 | _ :: _, _ :: _, _ :: _, [], _, _, _, _, _, h, _, _ => by simp at h
 | t :: ks, s :: ns, t' :: ks', s' :: ns', r, r', ih, ho, h1, h2, h3, h => by
  simp only [Jak, List.append_assoc] at h
  obtain ⟨a1, a2⟩ := JeV h
  obtain ⟨b1, b2⟩ := ih t (by simp) t' (ho t' (by simp)) _ _ a2
  obtain ⟨c1, c2, c3⟩ := JeW ks ns ks' ns' r r' (fun u hu => ih u (by simp [hu])) (fun u hu => ho u (by simp [hu])) (by simpa using h1) (by simpa using h2) (by simpa using h3) b2
  exact ⟨by simp [Jbi, Jdm a1, c1], by simp [JaX, b1, c2], c3⟩
theorem Jep : ∀ t : Nt, t.okN → ∀ t', t'.okN → ∀ r r', shw t ++ r = shw t' ++ r' → Jbs t t' = true ∧ r = r' := Nt.ind fun kind text names kids ih ho t' ho' r r' h => by
 cases ho with
 | leaf _ _ hk ht =>
  cases ho' with
  | leaf k' text' hk' ht' =>
   rw [Jaw hk, Jaw hk', List.cons_append, List.cons_append, List.cons.injEq] at h
   obtain ⟨h1, h2⟩ := h
   obtain ⟨h3, h4⟩ := JeV h2
   have hkk : kind = k' := by rcases hk with rfl | rfl <;> rcases hk' with rfl | rfl <;> first | rfl | (exfalso; revert h1; decide)
   subst hkk
   exact ⟨by simp [Jbs, Jdm h3, Jbi, JaX], h4⟩
  | dir text' names' kids' ht' hl hc hn hks =>
   rw [Jaw hk, JbF, List.cons_append, List.cons_append, List.cons.injEq] at h
   rcases hk with rfl | rfl <;> exact absurd h.1 (by decide)
 | dir _ _ _ ht hl hc hn hks =>
  cases ho' with
  | leaf k' text' hk' ht' =>
   rw [Jaw hk', JbF, List.cons_append, List.cons_append, List.cons.injEq] at h
   rcases hk' with rfl | rfl <;> exact absurd h.1 (by decide)
  | dir text' names' kids' ht' hl' hc' hn' hks' =>
   rw [JbF, JbF, List.cons_append, List.cons_append, List.cons.injEq, List.append_assoc, List.append_assoc, List.cons_append, List.cons_append] at h
   obtain ⟨h1, h2⟩ := JcB (JbV _) (JbV _) h.2
   have h3 := Jeo h1
   obtain ⟨c1, c2, c3⟩ := JeW kids names kids' names' r r' (fun t ht => ih t ht (hks t ht)) hks' hl hl' (by omega) h2
   exact ⟨by
    have : text.same text' = true := Jdm (by rw [List.eq_nil_of_length_eq_zero (l := text.toList) (by rw [S.len]; exact ht), List.eq_nil_of_length_eq_zero (l := text'.toList) (by rw [S.len]; exact ht')])
    simp [Jbs, this, c1, c2], c3⟩
def JcV (s : List UInt8) : Prop := ∀ t r, Nt.okN t → s ≠ shw t ++ r
theorem Jhm {b : UInt8} {s : List UInt8} (h1 : b ≠ 102) (h2 : b ≠ 108) (h3 : b ≠ 100) : JcV (b :: s) := fun t r ho h => by
 cases ho with
 | leaf k text hk ht =>
  rw [Jaw hk, List.cons_append, List.cons.injEq] at h
  rcases hk with rfl | rfl
  ·exact h1 h.1
  ·exact h2 h.1
 | dir text names kids ht hl hc hn hks =>
  rw [JbF, List.cons_append, List.cons.injEq] at h
  exact h3 h.1
theorem JiX : JcV [] := fun t r ho h => by
 have := congrArg List.length h
 have h2 := List.length_pos_iff.2 (JlK t)
 simp at this; omega
def JdT (s : List UInt8) : Prop := ∀ (z : S) r, z.n < 1000000 → s ≠ JaN z ++ r
theorem Jdn {k : Nat} {s : List UInt8} (hk : k = 1 ∨ k = 3) (h : JdT s) : JcV (UInt8.ofNat (cond (decide (k = 1)) 102 108) :: s) := fun t r ho he => by
 cases ho with
 | leaf k' text hk' ht =>
  rw [Jaw hk', List.cons_append, List.cons.injEq] at he
  exact h text r ht he.2
 | dir text names kids ht hl hc hn hks =>
  rw [JbF, List.cons_append, List.cons.injEq] at he
  rcases hk with rfl | rfl <;> exact absurd he.1 (by decide)
theorem JiY {s : List UInt8} (h : ∀ n r, ¬ NumAt s n r) : JcV (100 :: s) := fun t r ho he => by
 cases ho with
 | leaf k' text hk' ht =>
  rw [Jaw hk', List.cons_append, List.cons.injEq] at he
  rcases hk' with rfl | rfl <;> exact absurd he.1 (by decide)
 | dir text names kids ht hl hc hn hks =>
  rw [JbF, List.cons_append, List.cons.injEq] at he
  exact h names.length (Jak kids names ++ r) ⟨hc, by rw [he.2]; simp⟩
theorem JgA {s : List UInt8} (h : ∀ n r, ¬ NumAt s n r) : JdT s := fun z r hz he => h z.n (z.toList ++ r) ⟨hz, by rw [he, JaN]; simp⟩
theorem JgB {s : List UInt8} {n : Nat} {r : List UInt8} (h : NumAt s n r) (hn : r.length < n) : JdT s := fun z r' hz he => by
 obtain ⟨h1, h2⟩ := h.uniq (n' := z.n) (r' := z.toList ++ r') ⟨hz, by rw [he, JaN]; simp⟩
 have := congrArg List.length h2
 rw [List.length_append, S.len] at this; omega
structure DirTo (s : List UInt8) (c : Nat) (names : List S) (kids : List Nt) (r : List UInt8) : Prop where
 e : s = 100 :: (QW c ++ 58 :: (Jak kids names ++ r))
 l : names.length = kids.length
 c : c < 1000000
 n : ∀ z ∈ names, z.n < 1000000
 k : ∀ t ∈ kids, t.okN
theorem JgC : ∀ (a b : List Nt) (c d : List S), c.length = a.length → Jak (a ++ b) (c ++ d) = Jak a c ++ Jak b d
 | [], b, [], d, _ => by simp [Jak]
 | [], b, _ :: _, d, h => by simp at h
 | t :: a, b, [], d, h => by simp at h
 | t :: a, b, s :: c, d, h => by
  have := JgC a b c d (by simpa using h)
  simp only [List.cons_append, Jak, this, List.append_assoc]
theorem DirTo.no {s : List UInt8} {c : Nat} {names : List S} {kids : List Nt} {r : List UInt8} (h : DirTo s c names kids r) (hi : kids.length < c)
  (hno : ∀ (z : S) (t : Nt) (r' : List UInt8), z.n < 1000000 → t.okN → r ≠ JaN z ++ (shw t ++ r')) : JcV s := fun t r0 ho he => by
 rw [h.e] at he
 cases ho with
 | leaf k' text hk' ht =>
  rw [Jaw hk', List.cons_append, List.cons.injEq] at he
  rcases hk' with rfl | rfl <;> exact absurd he.1 (by decide)
 | dir text names' kids' ht hl hc hn hks =>
  rw [JbF, List.cons_append, List.cons.injEq, List.append_assoc, List.cons_append] at he
  obtain ⟨h1, h2⟩ := JcB (JbV _) (JbV _) he.2
  have h3 := Jeo h1
  have hk' : kids.length < kids'.length := by omega
  have hn' : kids.length < names'.length := by omega
  have hsp : Jak kids' names' = Jak (kids'.take kids.length) (names'.take kids.length) ++ Jak (kids'.drop kids.length) (names'.drop kids.length) := by
   rw [← JgC _ _ _ _ (by rw [List.length_take, List.length_take]; omega), List.take_append_drop, List.take_append_drop]
  rw [hsp, List.append_assoc] at h2
  obtain ⟨_, _, h5⟩ := JeW kids names _ _ r _ (fun t ht => Jep t (h.k t ht)) (fun t ht => hks t (List.mem_of_mem_take ht)) h.l (by rw [List.length_take, List.length_take]; omega) (by rw [List.length_take]; omega) h2
  rw [List.drop_eq_getElem_cons hk', List.drop_eq_getElem_cons hn'] at h5
  simp only [Jak, List.append_assoc] at h5
  exact hno _ _ _ (hn _ (List.getElem_mem hn')) (hks _ (List.getElem_mem hk')) h5
theorem DirTo.no_part {s : List UInt8} {c : Nat} {names : List S} {kids : List Nt} {r : List UInt8} (h : DirTo s c names kids r) (hi : kids.length < c) (hp : JdT r) : JcV s := h.no hi fun z _t _r' hz _ => hp z _ hz
theorem DirTo.no_node {s : List UInt8} {c : Nat} {names : List S} {kids : List Nt} {r r1 : List UInt8} {z : S} (h : DirTo s c names kids r) (hi : kids.length < c) (hr : r = JaN z ++ r1) (hp : JcV r1) : JcV s := h.no hi fun z' t r' hz ht he => by
 rw [hr] at he
 exact hp t r' ht (JeV he).2
theorem DirTo.step {s : List UInt8} {c : Nat} {names : List S} {kids : List Nt} {r r1 r2 : List UInt8} {z : S} {t : Nt} (h : DirTo s c names kids r) (hz : z.n < 1000000) (ht : t.okN) (h1 : r = JaN z ++ r1) (h2 : r1 = shw t ++ r2) : DirTo s c (names ++ [z]) (kids ++ [t]) r2 where
 e := by rw [h.e, JgC _ _ _ _ h.l, h1, h2]; simp [Jak]
 l := by simp [h.l]
 c := h.c
 n := fun y hy => by
  rcases List.mem_append.1 hy with hy | hy
  ·exact h.n y hy
  ·rw [List.mem_singleton] at hy; exact hy ▸ hz
 k := fun y hy => by
  rcases List.mem_append.1 hy with hy | hy
  ·exact h.k y hy
  ·rw [List.mem_singleton] at hy; exact hy ▸ ht
theorem DirTo.fin {s : List UInt8} {c : Nat} {names : List S} {kids : List Nt} {r : List UInt8} (h : DirTo s c names kids r) (hc : names.length = c) (text : S) (ht : text.n = 0) : Nt.okN (.mk 2 text names kids) ∧ s = shw (.mk 2 text names kids) ++ r :=
 ⟨.dir _ _ _ ht h.l (hc ▸ h.c) h.n h.k, by rw [h.e, JbF, hc]; simp⟩
end Go.Vm
namespace Go.Vm
open Go Go.Proofs Go.Pa
attribute [local simp] OkP QH OkS Qi OkG Qh Qp OkD JY Qr JI Jm Jq vop Js JB ev evs toV Jl Fr.dsTo Fr.glTo Fr.toNone Ji Jj Jk Qk QL Jd JD Jv V.undef JW JM J7 JX J3 J9 J8 Qa JH J4 J5 JZ JO Qb Jt Ju Jw Jz JE Jr JL JN JK Qq
def TextQ (rb : Nat) (s : S) (bad : Bool) (v : V) (st' : St) : Prop := (bad = false ∧ ∃ z r : S, v = .str z ∧ z.n < 1000000 ∧ s.toList = JaN z ++ r.toList ∧ RdB st' rb r false) ∨ ((bad = false → JdT s.toList) ∧ ∃ r : S, r.n ≤ s.n ∧ v = .str (S.ofList []) ∧ RdB st' rb r true)
theorem NumAt.len {s : S} {n : Nat} {r : S} (h : NumAt s.toList n r.toList) : r.n + 2 ≤ s.n := by
 have h1 := congrArg List.length h.2
 have h2 := List.length_pos_iff.2 (Jdl n)
 rw [S.len] at h1
 simp at h1; omega
variable [Memo] [NY] [NZ]
set_option maxHeartbeats 4000000 in
set_option maxRecDepth 100000 in
theorem Jj2 (gl : Gl) (hg : gl.get 1 = some powV) (hg2 : gl.get 2 = some errS) (hg3 : gl.get 3 = some errR) (st : St) (rb : Nat) (s : S) (bad : Bool) (hr : RdB st rb s bad) (hs : s.n ≤ 1000000000) :
  Says Tryz.prog gl 54 [.ptr rb 0] st (fun v st' => TextQ rb s bad v st' ∧ RdO rb st st') := by
 refine JS (NY.no _ rfl rfl rfl _ _) Tryz.func54 rfl (by kernel_rfl) fun R hR K gr gn => ?_
 generalize hfr : Jx gl [.ptr rb 0] = fr
 have hF : Fs gl [(0, .ptr rb 0)] fr := by subst hfr; simp [Fs]
 simp only [Fs] at hF
 clear hfr
 obtain ⟨v, s1, hc, hq, ho1⟩ := Says.use (Jm8 gl hg hg2 hg3 st rb s bad hr hs)
 cases hq with
 | inl hq =>
  obtain ⟨n, r, hn, rfl, hr1⟩ := hq
  have hrn := hn.len
  have l0 := hr1.l0
  obtain ⟨G, hG⟩ : ∃ b, decide (r.n < n) = b := ⟨_, rfl⟩
  have eG : ∀ kk, Jn Tryz.prog kk .gtr 3 (.int .i64 (n : Int)) (.int .i64 (r.n : Int)) = some (.bool G) := fun kk => by rw [← hG]; exact J8
  refine Ks_ (Ka_ (gs := [none]) fun K1 gK => ?_)
  simp (disch := omega) []
  refine gK _ _ (Ks_ (Ka_ (gs := [none, none, none]) fun K1 gK => ?_))
  simp (disch := omega) [hF, hc]
  refine gK _ _ (Ks_ (Ks_ (Ka_ (gs := [none, none, none, none, none, none, none]) fun K1 gK => ?_)))
  simp (disch := omega) [hF, fR0, Jb, l0, eG]
  refine gK _ _ ?_
  cases G with
  | true =>
   refine Kt_ (by simp (disch := omega) []) ?_
   have hG := of_decide_eq_true hG
   obtain ⟨s2, w2, hr2, ho2⟩ := hr1.s1 true
   have l1 := hr2.l1
   refine Ka_ (gs := [none, none, none, none]) fun K1 gK => ?_
   simp (disch := omega) [hF, fR1, w2]
   refine gK _ _ (Ks_ (Ks_ (Ka_ (gs := [none, none, none, none]) fun K1 gK => ?_)))
   simp (disch := omega) [hF, fR1, l1]
   refine gK _ _ (Kt_ (by simp (disch := omega) []) (Ks_ (Ka_ (gs := [none]) fun K1 gK => ?_)))
   simp (disch := omega) []
   refine gK _ _ (Kq_ (gr _ _ ?_))
   simp [JC, Tryz.f54, hF]
   refine hR _ _ ?_
   exact ⟨.inr ⟨fun _ => JgB hn (by rw [S.len]; exact hG), r, by omega, rfl, hr2⟩, ho1.trans ho2⟩
  | false =>
   refine Kf_ (by simp (disch := omega) []) ?_
   have hG := of_decide_eq_false hG
   have l1 := hr1.l1
   refine Kk_ (Ks_ (Ks_ (Ka_ (gs := [none, none, none, none]) fun K1 gK => ?_)))
   simp (disch := omega) [hF, fR1, l1]
   refine gK _ _ ?_
   cases bad with
   | true =>
    refine Kt_ (by simp (disch := omega) []) (Ks_ (Ka_ (gs := [none]) fun K1 gK => ?_))
    simp (disch := omega) []
    refine gK _ _ (Kq_ (gr _ _ ?_))
    simp [JC, Tryz.f54, hF]
    refine hR _ _ ?_
    exact ⟨.inr ⟨(fun h => by cases h), r, by omega, rfl, hr1⟩, ho1⟩
   | false =>
    refine Kf_ (by simp (disch := omega) []) ?_
    have v1 := JeN (k' := .i64) (hi := n) Tryz.underlying9 (s := r) (by omega)
    have v2 := Jbe (k := .i64) (lo := n) Tryz.underlying9 (s := r) (by omega)
    obtain ⟨s2, w2, hr2, ho2⟩ := hr1.s0 (r.cut n r.n)
    have c2 := Jbf r (i := n) (by omega)
    have c1 : (r.cut 0 n).toList = r.toList.take n := by
     rw [S.toList_cut _ (by omega) (by omega)]; simp
    have cn := Jgd r 0 n
    refine Kk_ (Ks_ (Ka_ (gs := [none, none, none, none, none, none, none]) fun K1 gK => ?_))
    simp (disch := omega) [hF, fR0, l0, v1]
    refine gK _ _ (Ks_ (Ka_ (gs := [none, none, none, none, none, none, none, none, none, none]) fun K1 gK => ?_))
    simp (disch := omega) [hF, fR0, l0, v2, w2]
    refine gK _ _ (Ks_ (Ka_ (gs := [none, none]) fun K1 gK => ?_))
    simp (disch := omega) []
    refine gK _ _ (Kq_ (gr _ _ ?_))
    simp [JC, Tryz.f54, hF]
    refine hR _ _ ?_
    exact ⟨.inl ⟨rfl, r.cut 0 n, r.cut n r.n, rfl, by rw [cn]; exact hn.1, by rw [JaN, cn, c1, c2, hn.2, Nat.sub_zero]; simp, hr2⟩, ho1.trans ho2⟩
 | inr hq =>
  obtain ⟨hno, rfl, hr1⟩ := hq
  have l0 := hr1.l0
  have l1 := hr1.l1
  have eG : ∀ kk, Jn Tryz.prog kk .gtr 3 (.int .i64 0) (.int .i64 (s.n : Int)) = some (.bool false) := fun kk => by rw [Jb3, decide_eq_false (by omega)]
  refine Ks_ (Ka_ (gs := [none]) fun K1 gK => ?_)
  simp (disch := omega) []
  refine gK _ _ (Ks_ (Ka_ (gs := [none, none, none]) fun K1 gK => ?_))
  simp (disch := omega) [hF, hc]
  refine gK _ _ (Ks_ (Ks_ (Ka_ (gs := [none, none, none, none, none, none, none]) fun K1 gK => ?_)))
  simp (disch := omega) [hF, fR0, Jb, l0, eG]
  refine gK _ _ (Kf_ (by simp (disch := omega) []) (Kk_ (Ks_ (Ks_ (Ka_ (gs := [none, none, none, none]) fun K1 gK => ?_)))))
  simp (disch := omega) [hF, fR1, l1]
  refine gK _ _ (Kt_ (by simp (disch := omega) []) (Ks_ (Ka_ (gs := [none]) fun K1 gK => ?_)))
  simp (disch := omega) []
  refine gK _ _ (Kq_ (gr _ _ ?_))
  simp [JC, Tryz.f54, hF]
  refine hR _ _ ?_
  exact ⟨.inr ⟨fun _ => JgA hno, s, Nat.le_refl _, rfl, hr1⟩, ho1⟩
end Go.Vm
