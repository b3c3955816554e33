/- strconv.Atoi: short numbers. -/
import Derived.Test.YtphinjijaglokaaGreatDoorSzJ
import Derived.Test.YtphinjijaglokaaGreatDoorSzC
namespace Go.Vm
open Go Go.Proofs Go.Pa
attribute [local simp] OkP QH OkS Qi OkG Qh Qp OkD JY Qr JI Jm Jq vop Js JB ev evs toV Jl Fr.dsTo Fr.glTo Fr.toNone Ji Jj Jk Qk QL Jd JD Jv V.undef JW JM J7 JX J3 J9 J8 Qa JH J4 J5 JZ JO Qb Jt Ju Jw Jz JE Jr JL JN JK Qq
def JdN (l : List UInt8) : Nat := l.foldl (fun a b => a * 10 + (b.toNat - 48)) 0
theorem Jdk (l : List UInt8) (b : UInt8) : JdN (l ++ [b]) = JdN l * 10 + (b.toNat - 48) := by simp [JdN]
theorem Jeh : ∀ (d n : Nat), ∀ b ∈ JdE d n, 48 ≤ b.toNat ∧ b.toNat ≤ 57
 | 0, n, b, h => by simp [JdE] at h
 | d + 1, n, b, h => by
  unfold JdE at h
  rcases List.mem_append.1 h with h | h
  ·by_cases h0 : n / 10 = 0
   ·rw [if_pos h0] at h; cases h
   ·rw [if_neg h0] at h; exact Jeh d _ b h
  ·rw [List.mem_singleton] at h
   subst h
   rw [QU (by omega)]; omega
theorem JeQ (n : Nat) : JdN (QW n) = n := by
 induction n using Nat.strongRecOn with
 | ind n ih =>
  by_cases h : n < 10
  ·rw [Ja4 h]; simp only [JdN, List.foldl_cons, List.foldl_nil]; rw [QU (by omega)]; omega
  ·rw [QG (by omega), Jdk, ih (n / 10) (by omega), QU (by omega)]; omega
theorem Jdl (n : Nat) : QW n ≠ [] := by
 unfold QW JdE; simp
def NoD (s : S) : Prop := ∀ m : Nat, s.toList ≠ QW m
theorem JmI {s : S} {i : Nat} (h : i < s.n) (hb : ¬ (48 ≤ s.at i ∧ s.at i ≤ 57)) : NoD s := fun m hm => by
 have h1 := s.toList_at h
 have h2 : UInt8.ofNat (s.at i) ∈ s.toList := List.mem_of_getElem? h1
 rw [hm] at h2
 have h3 := Jeh _ _ _ h2
 rw [QU (by have := S.at_lt s i; omega)] at h3
 exact hb h3
theorem JnX {s : S} (h : s.n = 0) : NoD s := fun m hm => by
 have := congrArg List.length hm
 rw [S.len, h] at this
 exact Jdl m (List.eq_nil_of_length_eq_zero this.symm)
structure AtR (s : S) (n : Int) (none : Bool) : Prop where
 a : s.n ≤ 6 → none = true → n < 1000000
 b : ∀ m : Nat, m < 1000000 → s.toList = QW m → n = (m : Int) ∧ none = true
theorem AtR.no {s : S} {n : Int} {e : Bool} (h : NoD s) (hn : n < 1000000) : AtR s n e := ⟨fun _ _ => hn, fun m _ hm => absurd hm (h m)⟩
theorem AtR.long {s : S} {n : Int} {e : Bool} (h : 6 < s.n) : AtR s n e := ⟨fun h' => by omega, fun m hm he => by
 have := JaP hm
 rw [← he, S.len] at this; omega⟩
def AiQ (s : S) (v : V) : Prop := ∃ (n : Int) (e : V), v = .tup [.int .i64 n, e] ∧ Jno e ∧ AtR s n (match e with | .nili => true | _ => false)
theorem JiH {i : Nat} (h : i ≤ 17) : 10 ^ i ≤ 100000000000000000 := Nat.pow_le_pow_right (by decide) h
theorem Jfz {i : Nat} (h : i ≤ 6) : 10 ^ i ≤ 1000000 := Nat.pow_le_pow_right (by decide) h
theorem JkH {s : S} {i : Nat} (h : i < s.n) : s.toList.take (i + 1) = s.toList.take i ++ [UInt8.ofNat (s.at i)] := by
 rw [List.take_add_one, s.toList_at h]; rfl
variable [Memo] [NY]
set_option maxRecDepth 100000 in
theorem JoW (gl : Gl) (st : St) (s : S) (hs0 : s.n = 0) :
  Says Tryz.prog gl 99 [.str s, .int .i64 10, .int .i64 0] st (fun v st' => AiQ s v ∧ Keep st st') := by
 refine JS (NY.no _ rfl rfl rfl _ _) Tryz.func99 rfl (by kernel_rfl) fun R hR K gr gn => ?_
 generalize hfr : Jx gl [.str s, .int .i64 10, .int .i64 0] = fr
 have hF : Fs gl [(0, .str s), (1, .int .i64 10), (2, .int .i64 0)] fr := by subst hfr; simp [Fs]
 simp only [Fs] at hF
 clear hfr
 have hsm := Jaj s
 rw [decide_eq_true hs0] at hsm
 refine Ks_ (Ka_ (gs := [none, none]) fun K1 gK => ?_)
 simp (disch := omega) []
 refine gK _ _ (Ks_ (Ks_ (Ka_ (gs := [none, none]) fun K1 gK => ?_)))
 simp (disch := omega) [hF, hsm]
 refine gK _ _ (Kt_ (by simp (disch := omega) []) (Ks_ (Ka_ (gs := [none, none, none]) fun K1 gK => ?_)))
 simp (disch := omega) []
 refine gK _ _ (Kq_ (gr _ _ ?_))
 simp [JC, Tryz.f99, hF]
 refine hR _ _ ?_
 exact ⟨⟨_, _, rfl, .inr (.inr rfl), AtR.no (JnX hs0) (by omega)⟩, .refl _⟩
theorem JoX (gl : Gl) (st : St) (s : S) (h : s.n = 0 ∨ 7 ≤ s.n) (hs : s.n ≤ 1000000000) : Says Tryz.prog gl 99 [.str s, .int .i64 10, .int .i64 0] st fun v st' => AiQ s v ∧ Keep st st' := by
 rcases h with h | h
 ·exact JoW gl st s h
 ·exact (Jpl gl st s (by omega) hs).mono fun v st' hh => ⟨by obtain ⟨n, e, rfl, he⟩ := hh.1; exact ⟨n, e, rfl, he, AtR.long (by omega)⟩, hh.2⟩
set_option maxHeartbeats 8000000 in
set_option maxRecDepth 100000 in
theorem JpF (gl : Gl) (st : St) (s : S) (hs : s.n ≤ 1000000000) :
  Says Tryz.prog gl 80 [.str s] st (fun v st' => AiQ s v ∧ Keep st st') := by
 refine JS (NY.no _ rfl rfl rfl _ _) Tryz.func80 rfl (by kernel_rfl) fun R hR K gr gn => ?_
 generalize hfr : Jx gl [.str s] = fr
 have hF : Fs gl [(0, .str s)] fr := by subst hfr; simp [Fs]
 simp only [Fs] at hF
 clear hfr
 obtain ⟨A, hA⟩ : ∃ b, decide (0 < s.n) = b := ⟨_, rfl⟩
 obtain ⟨B, hB⟩ : ∃ b, decide (s.n < 19) = b := ⟨_, rfl⟩
 have eA : ∀ kk, Jn Tryz.prog kk .lss 3 (.int .i64 0) (.int .i64 (s.n : Int)) = some (.bool A) := fun kk => by rw [← hA, JaO]; congr 2; exact decide_eq_decide.2 (by omega)
 have eB : ∀ kk, Jn Tryz.prog kk .lss 3 (.int .i64 (s.n : Int)) (.int .i64 19) = some (.bool B) := fun kk => by rw [← hB]; exact J5
 refine Ks_ (Ka_ (gs := [none, none]) fun K1 gK => ?_)
 simp (disch := omega) []
 refine gK _ _ (Ks_ (Ka_ (gs := [none, none, none]) fun K1 gK => ?_))
 simp (disch := omega) [hF, Jb]
 refine gK _ _ (Ks_ (Ks_ ?_))
 refine Km_ (fun fr st' => Fs gl [(0, .str s), (30, .bool (A && B))] fr ∧ st = st') ?_ ?_
 ·as_aux_lemma =>
  intro K1 gm1 go1
  cases A with
  | true =>
   refine Ka_ (gs := [none, some (some 13, true), some (some 13, true), some (some 13, true), some (some 16, true), some (some 16, true), some (some 13, true), none, none, some (some 21, false), some (some 22, true), some (some 22, true), some (some 22, true), some (some 25, true), some (some 25, true), some (some 22, true), some (some 21, false), none]) fun K1 gK => ?_
   simp (disch := omega) [eA, eB]
   refine gK _ _ ?_
   exact gm1 _ _ ⟨by simp [Fs, hF], rfl⟩
  | false =>
   refine Ka_ (gs := [none, some (some 13, true), some (some 13, true), some (some 13, true), some (some 16, true), some (some 16, true), some (some 13, true), none, none, some (some 21, false), some (some 22, true), some (some 22, true), some (some 22, true), some (some 25, true), some (some 25, true), some (some 22, true), some (some 21, false), none]) fun K1 gK => ?_
   simp (disch := omega) [eA]
   refine gK _ _ ?_
   exact gm1 _ _ ⟨by simp [Fs, hF], rfl⟩
 ·as_aux_lemma =>
  clear hF
  rintro fr st' ⟨hF, rfl⟩
  simp only [Fs] at hF
  obtain ⟨X, hX⟩ : ∃ b, (A && B) = b := ⟨_, rfl⟩
  rw [hX] at hF
  cases X with
  | true =>
   refine Kt_ (by simp (disch := omega) [hF]) ?_
   simp only [Bool.and_eq_true] at hX
   rw [hX.1] at hA
   rw [hX.2] at hB
   have hA := of_decide_eq_true hA
   have hB := of_decide_eq_true hB
   obtain ⟨c0, hc0⟩ : ∃ c, s.at 0 = c := ⟨_, rfl⟩
   have hix0 : Jao Tryz.prog 9 (.str s) (.int .i64 0) = some (.int .u8 (c0 : Int)) := by rw [← hc0]; exact Qw (i := 0) Tryz.underlying9 hA
   have hsl := JcG (s := s) (by omega)
   have hcn := JeO s 1
   obtain ⟨P1, hP1⟩ : ∃ b, decide (c0 = 45) = b := ⟨_, rfl⟩
   obtain ⟨P2, hP2⟩ : ∃ b, decide (c0 = 43) = b := ⟨_, rfl⟩
   have e1 : ∀ kk, Jn Tryz.prog kk .eql 5 (.int .u8 (c0 : Int)) (.int .u8 45) = some (.bool P1) := fun kk => by rw [← hP1]; exact JH
   have e2 : ∀ kk, Jn Tryz.prog kk .eql 5 (.int .u8 (c0 : Int)) (.int .u8 43) = some (.bool P2) := fun kk => by rw [← hP2]; exact JH
   have hsg : (P1 || P2) = true → NoD s := fun h => JmI hA (by
    rw [hc0]
    cases P1 with
    | true => have := of_decide_eq_true hP1; omega
    | false =>
     rw [Bool.false_or] at h; subst h
     have := of_decide_eq_true hP2; omega)
   refine Ks_ (Ka_ (gs := [none, none]) fun K1 gK => ?_)
   simp (disch := omega) [hF]
   refine gK _ _ (Ks_ (Ks_ ?_))
   refine Km_ (fun fr st' => Fs gl [(0, .str s), (5, .str s), (39, .bool (P1 || P2))] fr ∧ st = st') ?_ ?_
   ·as_aux_lemma =>
    intro K2 gm2 go2
    cases P1 with
    | true =>
     refine Ka_ (gs := [none, none, none, none, some (some 35, false), some (some 35, false), some (some 35, false), none]) fun K1 gK => ?_
     simp (disch := omega) [hF, hix0, e1]
     refine gK _ _ ?_
     exact gm2 _ _ ⟨by simp [Fs, hF], rfl⟩
    | false =>
     refine Ka_ (gs := [none, none, none, none, some (some 35, false), some (some 35, false), some (some 35, false), none]) fun K1 gK => ?_
     simp (disch := omega) [hF, hix0, e1, e2]
     refine gK _ _ ?_
     exact gm2 _ _ ⟨by simp [Fs, hF], rfl⟩
   ·as_aux_lemma =>
    clear hF
    rintro fr st' ⟨hF, rfl⟩
    simp only [Fs] at hF
    refine Km_ (fun fr st' => ∃ (s1 : S), Fs gl [(0, .str s1), (5, .str s)] fr ∧ st = st' ∧ s1.n ≤ s.n ∧ (s1 = s ∧ (P1 || P2) = false ∨ NoD s)) ?_ ?_
    ·as_aux_lemma =>
     intro K3 gm3 go3
     have gr3 := fun fr st h => go3 AE.ret fr st trivial (gr fr st h)
     obtain ⟨Y, hY⟩ : ∃ b, (P1 || P2) = b := ⟨_, rfl⟩
     rw [hY] at hF hsg
     cases Y with
     | true =>
      refine Kt_ (by simp (disch := omega) [hF]) ?_
      have hsg := hsg rfl
      obtain ⟨Z, hZ⟩ : ∃ b, decide (s.n - 1 < 1) = b := ⟨_, rfl⟩
      have eZ : ∀ kk, Jn Tryz.prog kk .lss 3 (.int .i64 ((s.cut 1 s.n).n : Int)) (.int .i64 1) = some (.bool Z) := fun kk => by rw [hcn, ← hZ]; exact J5
      refine Ks_ (Ka_ (gs := [none, none, none]) fun K1 gK => ?_)
      simp (disch := omega) [hF, hsl]
      refine gK _ _ (Ks_ (Ka_ (gs := [none, none, none]) fun K1 gK => ?_))
      simp (disch := omega) [Jb, eZ]
      refine gK _ _ ?_
      cases Z with
      | true =>
       refine Kt_ (by simp (disch := omega) []) (Ks_ (Ka_ (gs := [none, none, none]) fun K1 gK => ?_))
       simp (disch := omega) []
       refine gK _ _ (Kq_ (gr3 _ _ ?_))
       simp [JC, Tryz.f80, hF]
       refine hR _ _ ?_
       exact ⟨⟨_, _, rfl, .inr (.inr rfl), AtR.no hsg (by omega)⟩, .refl _⟩
      | false =>
       refine Kf_ (by simp (disch := omega) []) (Kk_ ?_)
       exact gm3 _ _ ⟨s.cut 1 s.n, by simp [Fs, hF], rfl, by omega, .inr hsg⟩
     | false =>
      refine Kf_ (by simp (disch := omega) [hF]) (Kk_ ?_)
      exact gm3 _ _ ⟨s, by simp [Fs, hF], rfl, Nat.le_refl _, .inl ⟨rfl, hY⟩⟩
    ·as_aux_lemma =>
     clear hF
     rintro fr st' ⟨s1, hF, rfl, hs1n, hs1⟩
     simp only [Fs] at hF
     have kb := Jds st s1
     have hbb := Jh9 st s1
     have hlb := Jok (id := st.ctr) (n := s1.n) (cap := none)
     refine Ks_ (Ka_ (gs := [none]) fun K1 gK => ?_)
     simp (disch := omega) []
     refine gK _ _ (Ks_ (Ks_ (Ka_ (gs := [none, none, none, none]) fun K1 gK => ?_)))
     simp (disch := omega) [hF, hbb, hlb]
     refine gK _ _ ?_
     generalize hq : JbH st s1 = q at hbb kb
     refine Kl_ (s1.n) (fun i fr st' => ∃ (n : Nat), Fs gl [(5, .str s), (6, .int .i64 (n : Int)), (47, .ms st.ctr 0 s1.n 1 none), (48, .int .i64 (s1.n : Int)), (49, .int .i64 (i : Int))] fr ∧ i ≤ s1.n ∧ n = JdN (s1.toList.take i) ∧ n < 10 ^ i ∧ Keep q st') (0) (fun fr st' => ∃ (n : Nat), Fs gl [(5, .str s), (6, .int .i64 (n : Int))] fr ∧ n = JdN s1.toList ∧ n < 10 ^ s1.n ∧ Keep q st') ?_ ?_ ?_ ?_
     ·exact ⟨0, by simp [Fs, hF], Nat.zero_le _, rfl, by simp, .refl _⟩
     ·rintro i fr st' ⟨n, _, hi, hv, hn, hk⟩
      omega
     ·as_aux_lemma =>
      clear hF
      rintro i fr st' ⟨n, hF, hi, hv, hn, hk⟩ K4 gk4 gx4 go4
      simp only [Fs] at hF
      have gr4 := fun fr st h => go4 AE.ret fr st trivial (gr fr st h)
      refine Ks_ (Ka_ (gs := [none]) fun K1 gK => ?_)
      simp (disch := omega) [hF]
      refine gK _ _ (Ks_ ?_)
      by_cases hlt : i < s1.n
      ·
       refine Kt_ (by simp (disch := omega) [hlt]) ?_
       have hix := JoE (id := st.ctr) (cap := none) hlt
       have kl : Keep (JbH st s1) st' := hq ▸ hk
       have hld := Je3 kl hlt
       obtain ⟨c, hc⟩ : ∃ c, s1.at i = c := ⟨_, rfl⟩
       have hc256 : c < 256 := hc ▸ S.at_lt s1 i
       rw [hc] at hld
       obtain ⟨d, wd, hd0, hd1⟩ : ∃ d : Nat, IntKind.u8.wrap ((c : Int) - 48) = (d : Int) ∧ (d ≤ 9 → c = d + 48) ∧ (9 < d → ¬ (48 ≤ c ∧ c ≤ 57)) := by
        by_cases h48 : 48 ≤ c
        ·exact ⟨c - 48, by rw [Ja6 (by omega) (by omega)]; omega, by omega, by omega⟩
        ·exact ⟨c + 208, by simp [IntKind.wrap, IntKind.bits, IntKind.signed]; omega, by omega, by omega⟩
       refine Kk_ (Ks_ ?_)
       refine Kb_ fun K5 gn5 gx5 go5 => ?_
       have gr5 := fun fr st h => go5 AE.ret fr st trivial (gr4 fr st h)
       refine Ks_ (Ka_ (gs := [none, none, none]) fun K1 gK => ?_)
       simp (disch := omega) [hF, hlt, hix, hld]
       refine gK _ _ (Ks_ (Ka_ (gs := [none, none, none]) fun K1 gK => ?_))
       simp (disch := omega) [wd]
       refine gK _ _ (Ks_ (Ks_ (Ka_ (gs := [none, none]) fun K1 gK => ?_)))
       simp (disch := omega) []
       refine gK _ _ ?_
       by_cases hd9 : 9 < d
       ·
        refine Kt_ (by simp (disch := omega) [hd9]) (Ks_ (Ka_ (gs := [none, none, none]) fun K1 gK => ?_))
        simp (disch := omega) [hd9]
        refine gK _ _ (Kq_ (gr5 _ _ ?_))
        simp [JC, Tryz.f80, hF]
        refine hR _ _ ?_
        exact ⟨⟨_, _, rfl, .inr (.inr rfl), AtR.no (by
         rcases hs1 with ⟨rfl, _⟩ | h
         ·exact JmI hlt (by rw [hc]; exact hd1 hd9)
         ·exact h) (by omega)⟩, kb.trans hk⟩
       ·
        refine Kf_ (by simp (disch := omega) [hd9]) ?_
        have hcd := hd0 (by omega)
        have hp := JiH (i := i) (by omega)
        obtain ⟨m, hm⟩ : ∃ m : Nat, n * 10 = m := ⟨_, rfl⟩
        have mu : ∀ kk, Jn Tryz.prog kk .mul 3 (.int .i64 (n : Int)) (.int .i64 10) = some (.int .i64 (m : Int)) := fun kk => by rw [Qs, Jr (by omega) (by omega)]; congr 2; omega
        have cd : ∀ st, QJ Tryz.prog st 5 3 (.int .u8 (d : Int)) = some (.int .i64 (d : Int)) := fun st => by rw [Q5 Tryz.underlying5 Tryz.underlying3, Jr (by omega) (by omega)]
        refine Kk_ (Ka_ (gs := [none, none, none, none, none, none]) fun K1 gK => ?_)
        simp (disch := omega) [hF, hd9, mu, cd]
        refine gK _ _ (gn5 _ _ (Ka_ (gs := [none, none]) fun K1 gK => ?_))
        simp (disch := omega) [hF]
        refine gK _ _ ?_
        refine gk4 (i + 1) _ _ (by omega) ⟨m + d, by simp [Fs, hF], by omega, (by rw [JkH hlt, Jdk, ← hv, hc, QU hc256]; omega), (by rw [Nat.pow_succ]; omega), hk⟩
      ·
       refine Kf_ (by simp (disch := omega) [hlt]) ?_
       exact Kx_ (gx4 _ _ ⟨n, by simp [Fs, hF, hlt], (by rw [hv, List.take_of_length_le (by rw [S.len]; omega)]), (by rw [show s1.n = i by omega]; exact hn), hk⟩)
     ·as_aux_lemma =>
      clear hF
      rintro fr st' ⟨n, hF, hv, hn, hk⟩
      simp only [Fs] at hF
      have hp := JiH (i := s1.n)
      have hfin : AtR s (if P1 = true then 0 - (n : Int) else (n : Int)) true := by
       rcases hs1 with ⟨rfl, hnp⟩ | h
       ·have : P1 = false := by cases P1 <;> simp_all
        subst this
        refine ⟨fun h6 _ => ?_, fun m hm he => ⟨?_, rfl⟩⟩
        ·have := Jfz h6
         show (n : Int) < _
         omega
        ·show (n : Int) = _
         rw [hv, he, JeQ]
       ·refine ⟨fun h6 _ => ?_, fun m hm he => absurd he (h m)⟩
        have := Jfz (i := s1.n) (by omega)
        split <;> omega
      have hnb : n < 1000000000000000000 := Nat.lt_of_lt_of_le hn (Nat.pow_le_pow_right (n := 10) (by decide) (show s1.n ≤ 18 by omega))
      have hng : QQ Tryz.prog (fun l => Op.unary .neg (l.getD 0 undef)) [.int .i64 (n : Int)] = some (.int .i64 (0 - (n : Int))) := by rw [JF, Jr (by omega) (by omega)]
      refine Ks_ (Ks_ (Ka_ (gs := [none, none, none]) fun K1 gK => ?_))
      simp (disch := omega) [hF, hix0, e1]
      refine gK _ _ ?_
      cases P1 with
      | true =>
       refine Kt_ (by simp (disch := omega) []) (Ka_ (gs := [none, none, none]) fun K1 gK => ?_)
       simp (disch := omega) [hF]
       refine gK _ _ (Ks_ (Ka_ (gs := [none, none, none]) fun K1 gK => ?_))
       simp (disch := omega) []
       refine gK _ _ (Kq_ (gr _ _ ?_))
       simp [JC, Tryz.f80, hF]
       refine hR _ _ ?_
       exact ⟨⟨_, _, rfl, .inl rfl, by simpa using hfin⟩, kb.trans hk⟩
      | false =>
       refine Kf_ (by simp (disch := omega) []) (Kk_ (Ks_ (Ka_ (gs := [none, none, none]) fun K1 gK => ?_)))
       simp (disch := omega) [hF]
       refine gK _ _ (Kq_ (gr _ _ ?_))
       simp [JC, Tryz.f80, hF]
       refine hR _ _ ?_
       exact ⟨⟨_, _, rfl, .inl rfl, by simpa using hfin⟩, kb.trans hk⟩
  | false =>
   refine Kf_ (by simp (disch := omega) [hF]) ?_
   have h07 : s.n = 0 ∨ 7 ≤ s.n := by
    by_cases h0 : s.n = 0
    ·exact .inl h0
    ·rw [decide_eq_true (by omega)] at hA
     rw [← hA, Bool.true_and] at hX
     rw [hX] at hB
     have := of_decide_eq_false hB
     exact .inr (by omega)
   obtain ⟨v, s2, hc2, ⟨n, e, rfl, he, hat⟩, hk2⟩ := Says.use (JoX gl st s h07 hs)
   refine Kk_ (Ks_ (Ka_ (gs := [none, none, none, none, none, none, none]) fun K1 gK => ?_))
   simp (disch := omega) [hF, hc2]
   refine gK _ _ (Ks_ (Ka_ (gs := [none, none, none, none]) fun K1 gK => ?_))
   simp (disch := omega) []
   refine gK _ _ (Kq_ (gr _ _ ?_))
   simp [JC, Tryz.f80, hF]
   refine hR _ _ ?_
   exact ⟨⟨n, e, rfl, he, hat⟩, hk2⟩
omit [Memo] [NY] in
theorem hi5 : ∃ i, Tryz.prog.info? 5 = some i ∧ i.size = 1 ∧ i.bytes ≤ 64 := by
 have h : (match Tryz.prog.info? 5 with
  | some i => Nat.beq i.size 1 && Nat.ble i.bytes 64
  | none => false) = true := by kernel_rfl
 split at h
 ·rename_i i hi
  simp only [Bool.and_eq_true] at h
  exact ⟨i, hi, Nat.eq_of_beq_eq_true h.1, Nat.le_of_ble_eq_true h.2⟩
 ·cases h
end Go.Vm
namespace Go.Vm
open Go Go.Proofs Go.Pa
attribute [local simp] OkP QH OkS Qi OkG Qh Qp OkD JY Qr JI Jm Jq vop Js JB ev evs toV Jl Fr.dsTo Fr.glTo Fr.toNone Ji Jj Jk Qk QL Jd JD Jv V.undef JW JM J7 JX J3 J9 J8 Qa JH J4 J5 JZ JO Qb Jt Ju Jw Jz JE Jr JL JN JK Qq
theorem JmJ {st : St} {id : Nat} {s : S} (h0 : s.n ≠ 0) (hb : st.box.get id = some (.cells (List.replicate s.n (.int .u8 0)) 5 true (some 0))) :
  Jc5 Tryz.prog st 40 (.ms id 0 s.n 1 (some s.n)) (.str s) = some (.int .i64 (s.n : Int), st.put id (.cells (JQ s.toList) 5 true (some 0))) := by
 obtain ⟨d, hd⟩ : ∃ d, s.n = d + 1 := ⟨s.n - 1, by omega⟩
 have h1 : Jad st 1 (.str s) = some (JQ s.toList, s.n) := rfl
 have hbl : (JQ s.toList).length = s.n := by rw [Qt, S.len]
 have h2 : over (List.replicate s.n (V.int .u8 0)) 0 (JQ s.toList) = JQ s.toList := by
  unfold over; rw [List.take_zero, List.nil_append, Nat.zero_add, List.drop_eq_nil_of_le (by rw [List.length_replicate, hbl]; exact Nat.le_refl _), List.append_nil]
 have h3 : Nat.ble (0 + s.n) (List.replicate s.n (V.int .u8 0)).length = true := Nat.ble_eq_true_of_le (by rw [List.length_replicate]; omega)
 have h4 : Nat.min s.n s.n = s.n := Nat.min_eq_right (Nat.le_refl _)
 have h5 : Jb6 (some 0) 0 = true := rfl
 have h6 : (JQ s.toList).take s.n = JQ s.toList := List.take_of_length_le (by omega)
 rw [hd] at h1 h2 h3 h4 h6 hb ⊢
 simp only [Jc5, u91, z5, h1, hb, Nat.mul_one, h3, h4, h5, h6, h2, JdP, show Nat.beq (d + 1) 0 = false from rfl, Nat.beq_refl, Bool.and_self, Bool.not_false]
 rfl
theorem JmK {st : St} {id : Nat} {s : S} (h0 : s.n ≠ 0) (hs : s.n ≤ 1000000000) (hb : st.box.get id = some (.cells (JQ s.toList) 5 true (some 0))) :
  ∃ st', Jbq Tryz.prog st 67 (.ptr id 0) (.int .i64 (s.n : Int)) = some (.str (S.ofList s.toList), st') ∧ Only id st st' := by
 obtain ⟨d, hd⟩ : ∃ d, s.n = d + 1 := ⟨s.n - 1, by omega⟩
 have hbl : (JQ s.toList).length = s.n := by rw [Qt, S.len]
 have h1 : Nat.ble (0 + s.n) (JQ s.toList).length = true := Nat.ble_eq_true_of_le (by omega)
 have h2 : Nat.ble s.n JA = true := Nat.ble_eq_true_of_le (by simp [JA]; omega)
 have h3 : bytesOf (sub (JQ s.toList) 0 s.n) = some s.toList := by
  rw [show sub (JQ s.toList) 0 s.n = JQ s.toList from by unfold sub; rw [List.drop_zero, List.take_of_length_le (by omega)]]
  exact Jcv _
 rw [hd] at h1 h2 h3 ⊢
 have ha : JaQ (.int .i64 ((d + 1 : Nat) : Int)) = some (d + 1) := rfl
 refine ⟨{ ctr := st.ctr, box := st.box.put id (.cells (JQ s.toList) 5 true (some (Nat.max 0 (0 + (d + 1))))) }, by simp only [Jbq, ha, hb, JpK, co5]; rw [h1, h2, h3]; rfl, Nat.le_refl _, fun j hj => ?_⟩
 show (st.box.put id _).get j = _
 rw [Tr.get_put, if_neg hj]
theorem Jox {L : List V} (h : ∃ x, L = [x]) (st : St) : Qe Tryz.prog st 46 (.cp L) = some (L.getD 0 .undef) := by
 obtain ⟨x, rfl⟩ := h
 have h1 : Jag Tryz.prog 46 = some false := by kernel_rfl
 have h2 : Qj Tryz.prog 46 = some 1 := by kernel_rfl
 simp only [Qe, Jbp, h1, h2]; rfl
theorem Jp3 : veq 1000000000 (errS.getD 0 .undef) (errS.getD 0 .undef) = true := Qz _ (Nat.le_of_ble_eq_true rfl)
theorem Jp4 : veq 1000000000 (errR.getD 0 .undef) (errR.getD 0 .undef) = true := Qz _ (Nat.le_of_ble_eq_true rfl)
theorem bdS (a b : S) : Jb7 Tryz.prog 158 [(0, .str a), (1, .str b), (2, errS.getD 0 .undef)] = some (.agg [.str a, .str b, errS.getD 0 .undef]) := by kernel_rfl
theorem bdR (a b : S) : Jb7 Tryz.prog 158 [(0, .str a), (1, .str b), (2, errR.getD 0 .undef)] = some (.agg [.str a, .str b, errR.getD 0 .undef]) := by kernel_rfl
theorem JoY (a b : S) : ([.str a, .str b, errS.getD 0 .undef] : List V).all Qn = true := rfl
theorem JnY (a b : S) : ([.str a, .str b, errR.getD 0 .undef] : List V).all Qn = true := rfl
variable [Memo] [NY]
set_option maxRecDepth 100000 in
theorem JiI (gl : Gl) (st : St) (s : S) (hs : s.n ≤ 1000000000) :
  Says Tryz.prog gl 121 [.str s] st (fun v st' => (∃ t : S, v = .str t ∧ t.toList = s.toList) ∧ Keep st st') := by
 refine JS (NY.no _ rfl rfl rfl _ _) Tryz.func121 rfl (by kernel_rfl) fun R hR K gr gn => ?_
 generalize hfr : Jx gl [.str s] = fr
 have hF : Fs gl [(0, .str s)] fr := by subst hfr; simp [Fs]
 simp only [Fs] at hF
 clear hfr
 refine Ks_ (Ka_ (gs := [none]) fun K1 gK => ?_)
 simp (disch := omega) []
 refine gK _ _ (Ks_ (Ks_ (Ka_ (gs := [none, none, none]) fun K1 gK => ?_)))
 simp (disch := omega) [hF, Jb]
 refine gK _ _ ?_
 by_cases h0 : s.n = 0
 ·
  refine Kt_ (by simp (disch := omega) [h0]) (Ks_ (Ka_ (gs := [none]) fun K1 gK => ?_))
  simp (disch := omega) [h0]
  refine gK _ _ (Kq_ (gr _ _ ?_))
  simp [JC, Tryz.f121, hF]
  refine hR _ _ ?_
  exact ⟨⟨_, rfl, by rw [List.eq_nil_of_length_eq_zero (l := s.toList) (by rw [S.len]; exact h0)]; rfl⟩, .refl _⟩
 ·
  refine Kf_ (by simp (disch := omega) [h0]) ?_
  obtain ⟨i5', hi5, hz5, hz5'⟩ := i5
  have hvm : Jgo Tryz.prog st 40 (.int .i64 (s.n : Int)) (.int .i64 (s.n : Int)) = some (.ms st.ctr 0 s.n 1 (some s.n), { ctr := st.ctr + 1, box := st.box.put st.ctr (.cells (List.replicate s.n (.int .u8 0)) 5 true (some 0)) }) :=
   Jg9 u91 hi5 zs5 hz5 rfl (Nat.le_trans (Nat.mul_le_mul hz5' hs) (by simp [JA])) (by simp [JA]; omega)
  obtain ⟨q1, hq1⟩ : ∃ q : St, q = { ctr := st.ctr + 1, box := st.box.put st.ctr (.cells (List.replicate s.n (.int .u8 0)) 5 true (some 0)) } := ⟨_, rfl⟩
  rw [← hq1] at hvm
  have kq : Keep st q1 := by rw [hq1]; exact (Keep.refl st).new _
  have cq : q1.ctr = st.ctr + 1 := by rw [hq1]
  have gq : q1.box.get st.ctr = some (.cells (List.replicate s.n (.int .u8 0)) 5 true (some 0)) := by rw [hq1]; simp [Tr.get_put]
  have hcp := JmJ h0 gq
  have kq2 : Keep st (q1.put st.ctr (.cells (JQ s.toList) 5 true (some 0))) := kq.put (Nat.le_refl _) _
  have gq2 : (q1.put st.ctr (.cells (JQ s.toList) 5 true (some 0))).box.get st.ctr = some (.cells (JQ s.toList) 5 true (some 0)) := by rw [put_get, if_pos rfl]
  generalize q1.put st.ctr (.cells (JQ s.toList) 5 true (some 0)) = q2 at hcp kq2 gq2
  obtain ⟨q3, hus, ho3⟩ := JmK h0 hs gq2
  have hix := JoE (id := st.ctr) (n := s.n) (i := 0) (cap := some s.n) (by omega)
  have hl := Jok (id := st.ctr) (n := s.n) (cap := some s.n)
  have hix : Jo Tryz.prog 40 (.ms st.ctr 0 s.n 1 (some s.n)) (.int .i64 0) = some (.ptr st.ctr 0) := hix
  refine Kk_ (Ks_ (Ka_ (gs := [none, none, none, none]) fun K1 gK => ?_))
  simp (disch := omega) [hF, Jb, h0, hvm]
  refine gK _ _ (Ks_ (Ka_ (gs := [none, none, none]) fun K1 gK => ?_))
  simp (disch := omega) [hF, hcp]
  refine gK _ _ (Ks_ (Ka_ (gs := [none, none, none, none, none, none]) fun K1 gK => ?_))
  simp (disch := omega) [hus, hix, hl]
  refine gK _ _ (Kq_ (gr _ _ ?_))
  simp [JC, Tryz.f121, hF]
  refine hR _ _ ?_
  exact ⟨⟨_, rfl, S.toList_ofList _⟩, ⟨Nat.le_trans kq2.ctr ho3.ctr, fun i hi => (ho3.box i (by omega)).trans (kq2.box i hi)⟩⟩
set_option maxRecDepth 100000 in
theorem Jlg (gl : Gl) (hg : gl.get 2 = some errS) (st : St) (f s : S) (hs : s.n ≤ 1000000000) :
  Says Tryz.prog gl 100 [.str f, .str s] st (fun v st' => (∃ i, v = .ptr i 0) ∧ Keep st st') := by
 refine JS (NY.no _ rfl rfl rfl _ _) Tryz.func100 rfl (by kernel_rfl) fun R hR K gr gn => ?_
 generalize hfr : Jx gl [.str f, .str s] = fr
 have hF : Fs gl [(0, .str f), (1, .str s)] fr := by subst hfr; simp [Fs]
 simp only [Fs] at hF
 clear hfr
 obtain ⟨q, hq, kq, cq⟩ := Jcb st 7
 obtain ⟨v, s1, hc, ⟨t, rfl, ht⟩, hk1⟩ := Says.use (JiI gl q s hs)
 have hl := fun st => Jox (L := errS) ⟨_, rfl⟩ st
 have hbd := bdS f t
 have hone := JoY f t
 have hve := Jp3
 generalize errS.getD 0 .undef = e at hl hbd hone hve
 have hkk : Keep st (s1.put (st.ctr + 5) (.cells [.str f, .str t, e] 158 true (some 0))) := (kq.trans hk1).put (by omega) _
 have hpp : ({ ctr := s1.ctr, box := s1.box.put (st.ctr + 5) (.cells [.str f, .str t, e] 158 true (some 0)) } : St) = s1.put (st.ctr + 5) (.cells [.str f, .str t, e] 158 true (some 0)) := rfl
 generalize s1.put (st.ctr + 5) (.cells [.str f, .str t, e] 158 true (some 0)) = s2 at hkk hpp
 refine Ks_ (Ka_ (gs := [none]) fun K1 gK => ?_)
 simp (disch := omega) []
 refine gK _ _ (Ks_ ?_)
 refine DoK.drawP (b := [0, 0, 2, 0, 15, 31, 63]) (rs := [(1, 2), (0, 1), (3, 4)]) (gs := [none, none, none, none, none, none, none]) (by kernel_rfl) (by kernel_rfl) (by kernel_rfl) (by kernel_rfl) (by kernel_rfl) fun K1 gK => ?_
 simp only [Jac, Jb2, List.drop_zero, List.drop_succ_cons, List.take_succ_cons, List.take_zero, List.cons_append, List.nil_append]
 simp (disch := omega) [hF, hq, hc, hg, hl, hbd, hone, hve, Ja, hpp, Jc]
 refine gK _ _ (Kq_ (gr _ _ ?_))
 simp [JC, Tryz.f100, hF]
 refine hR _ _ ?_
 exact ⟨⟨_, rfl⟩, hkk⟩
set_option maxRecDepth 100000 in
theorem Jlh (gl : Gl) (hg : gl.get 3 = some errR) (st : St) (f s : S) (hs : s.n ≤ 1000000000) :
  Says Tryz.prog gl 101 [.str f, .str s] st (fun v st' => (∃ i, v = .ptr i 0) ∧ Keep st st') := by
 refine JS (NY.no _ rfl rfl rfl _ _) Tryz.func101 rfl (by kernel_rfl) fun R hR K gr gn => ?_
 generalize hfr : Jx gl [.str f, .str s] = fr
 have hF : Fs gl [(0, .str f), (1, .str s)] fr := by subst hfr; simp [Fs]
 simp only [Fs] at hF
 clear hfr
 obtain ⟨q, hq, kq, cq⟩ := Jcb st 7
 obtain ⟨v, s1, hc, ⟨t, rfl, ht⟩, hk1⟩ := Says.use (JiI gl q s hs)
 have hl := fun st => Jox (L := errR) ⟨_, rfl⟩ st
 have hbd := bdR f t
 have hone := JnY f t
 have hve := Jp4
 generalize errR.getD 0 .undef = e at hl hbd hone hve
 have hkk : Keep st (s1.put (st.ctr + 5) (.cells [.str f, .str t, e] 158 true (some 0))) := (kq.trans hk1).put (by omega) _
 have hpp : ({ ctr := s1.ctr, box := s1.box.put (st.ctr + 5) (.cells [.str f, .str t, e] 158 true (some 0)) } : St) = s1.put (st.ctr + 5) (.cells [.str f, .str t, e] 158 true (some 0)) := rfl
 generalize s1.put (st.ctr + 5) (.cells [.str f, .str t, e] 158 true (some 0)) = s2 at hkk hpp
 refine Ks_ (Ka_ (gs := [none]) fun K1 gK => ?_)
 simp (disch := omega) []
 refine gK _ _ (Ks_ ?_)
 refine DoK.drawP (b := [0, 0, 2, 0, 15, 31, 63]) (rs := [(1, 2), (0, 1), (3, 4)]) (gs := [none, none, none, none, none, none, none]) (by kernel_rfl) (by kernel_rfl) (by kernel_rfl) (by kernel_rfl) (by kernel_rfl) fun K1 gK => ?_
 simp only [Jac, Jb2, List.drop_zero, List.drop_succ_cons, List.take_succ_cons, List.take_zero, List.cons_append, List.nil_append]
 simp (disch := omega) [hF, hq, hc, hg, hl, hbd, hone, hve, Ja, hpp, Jc]
 refine gK _ _ (Kq_ (gr _ _ ?_))
 simp [JC, Tryz.f101, hF]
 refine hR _ _ ?_
 exact ⟨⟨_, rfl⟩, hkk⟩
set_option maxRecDepth 100000 in
theorem JmL (gl : Gl) (h2 : gl.get 2 = some errS) (h3 : gl.get 3 = some errR) (st : St) (f s : S) (hs : s.n ≤ 1000000000) (a b : Int) (e : V) (he : e = .iface 129 (.int .i64 1) ∨ e = .iface 129 (.int .i64 2)) :
  Says Tryz.prog gl 81 [.str f, .str s, .int .i64 a, .int .i64 b, e] st (fun v st' => (∃ T x, v = .iface T x) ∧ Keep st st') := by
 refine JS (NY.no _ rfl rfl rfl _ _) Tryz.func81 rfl (by kernel_rfl) fun R hR K gr gn => ?_
 generalize hfr : Jx gl [.str f, .str s, .int .i64 a, .int .i64 b, e] = fr
 have hF : Fs gl [(0, .str f), (1, .str s), (2, .int .i64 a), (3, .int .i64 b), (4, e)] fr := by subst hfr; simp [Fs]
 simp only [Fs] at hF
 clear hfr
 obtain ⟨B, hB, hB'⟩ : ∃ B, (∀ kk, Jn Tryz.prog kk .eql 46 e (.iface 129 (.int .i64 2)) = some (.bool B)) ∧ (B = false → ∀ kk, Jn Tryz.prog kk .eql 46 e (.iface 129 (.int .i64 1)) = some (.bool true)) := by
  rcases he with rfl | rfl
  ·exact ⟨false, Jns, fun _ => Jnt⟩
  ·exact ⟨true, Jnr, fun h => by cases h⟩
 refine Ks_ (Ka_ (gs := [none]) fun K1 gK => ?_)
 simp (disch := omega) []
 refine gK _ _ (Ks_ (Ks_ (Ka_ (gs := [none]) fun K1 gK => ?_)))
 simp (disch := omega) [hF]
 refine gK _ _ ?_
 refine Kb_ fun K1 gn1 gx1 go1 => ?_
 have gr1 := fun fr st h => go1 AE.ret fr st trivial (gr fr st h)
 refine Ks_ (Ka_ (gs := [none, none, none]) fun K1 gK => ?_)
 simp (disch := omega) [hB]
 refine gK _ _ ?_
 cases B with
 | true =>
  refine Kt_ (by simp (disch := omega) []) ?_
  obtain ⟨v, s1, hc, ⟨i, rfl⟩, hk1⟩ := Says.use (Jlg gl h2 st f s hs)
  refine Ks_ (Ka_ (gs := [none, none, none, none, none]) fun K1 gK => ?_)
  simp (disch := omega) [hF, hc, Tryz.underlying132]
  refine gK _ _ (Kq_ (gr1 _ _ ?_))
  simp [JC, Tryz.f81, hF]
  refine hR _ _ ?_
  exact ⟨⟨_, _, rfl⟩, hk1⟩
 | false =>
  refine Kf_ (by simp (disch := omega) []) ?_
  have hB2 := hB' rfl
  obtain ⟨v, s1, hc, ⟨i, rfl⟩, hk1⟩ := Says.use (Jlh gl h3 st f s hs)
  refine Ks_ (Ka_ (gs := [none, none, none]) fun K1 gK => ?_)
  simp (disch := omega) [hB2]
  refine gK _ _ (Kt_ (by simp (disch := omega) []) (Ks_ (Ka_ (gs := [none, none, none, none, none]) fun K1 gK => ?_)))
  simp (disch := omega) [hF, hc, Tryz.underlying132]
  refine gK _ _ (Kq_ (gr1 _ _ ?_))
  simp [JC, Tryz.f81, hF]
  refine hR _ _ ?_
  exact ⟨⟨_, _, rfl⟩, hk1⟩
def AtQ (s : S) (v : V) : Prop := ∃ (n : Int) (e : V) (N : Bool), v = .tup [.int .i64 n, e] ∧ Jn Tryz.prog true .neq 46 e .nili = some (.bool (!N)) ∧ AtR s n N
set_option maxRecDepth 100000 in
theorem JnZ (gl : Gl) (h2 : gl.get 2 = some errS) (h3 : gl.get 3 = some errR) (st : St) (s : S) (hs : s.n ≤ 1000000000) :
  Says Tryz.prog gl 68 [.str s] st (fun v st' => AtQ s v ∧ Keep st st') := by
 refine JS (NY.no _ rfl rfl rfl _ _) Tryz.func68 rfl (by kernel_rfl) fun R hR K gr gn => ?_
 generalize hfr : Jx gl [.str s] = fr
 have hF : Fs gl [(0, .str s)] fr := by subst hfr; simp [Fs]
 simp only [Fs] at hF
 clear hfr
 obtain ⟨v, s1, hc, ⟨n, e, rfl, he, hat⟩, hk1⟩ := Says.use (JpF gl st s hs)
 obtain ⟨N, hN, hN', hN0⟩ : ∃ N, Jn Tryz.prog true .neq 46 e .nili = some (.bool (!N)) ∧ AtR s n N ∧ (N = false → e = .iface 129 (.int .i64 1) ∨ e = .iface 129 (.int .i64 2)) := by
  rcases he with rfl | he | he
  ·exact ⟨true, Jjl, hat, fun h => by cases h⟩
  ·subst he; exact ⟨false, JfI _, hat, fun _ => .inl rfl⟩
  ·subst he; exact ⟨false, JfI _, hat, fun _ => .inr rfl⟩
 refine Ks_ (Ka_ (gs := [none, none]) fun K1 gK => ?_)
 simp (disch := omega) []
 refine gK _ _ (Ks_ (Ka_ (gs := [none, none, none, none, none, none, none]) fun K1 gK => ?_))
 simp (disch := omega) [hF, hc]
 refine gK _ _ (Ks_ (Ks_ (Ka_ (gs := [none, none]) fun K1 gK => ?_)))
 simp (disch := omega) [hN, isK]
 refine gK _ _ ?_
 cases N with
 | true =>
  refine Kf_ (by simp (disch := omega) []) (Kk_ (Ks_ (Ka_ (gs := [none, none, none]) fun K1 gK => ?_)))
  simp (disch := omega) []
  refine gK _ _ (Kq_ (gr _ _ ?_))
  simp [JC, Tryz.f68, hF]
  refine hR _ _ ?_
  exact ⟨⟨n, .nili, true, rfl, Jjl, hN'⟩, hk1⟩
 | false =>
  refine Kt_ (by simp (disch := omega) []) ?_
  obtain ⟨v, s2, hc2, ⟨T, x, rfl⟩, hk2⟩ := Says.use (JmL gl h2 h3 s1 (S.ofList [65, 116, 111, 105]) s hs 0 0 e (hN0 rfl))
  refine Ks_ (Ka_ (gs := [none, none, none, none, none, none]) fun K1 gK => ?_)
  simp (disch := omega) [hF, hc2]
  refine gK _ _ (Kq_ (gr _ _ ?_))
  simp [JC, Tryz.f68, hF]
  refine hR _ _ ?_
  exact ⟨⟨n, .iface T x, false, rfl, JfI _, hN'⟩, hk1.trans hk2⟩
end Go.Vm
