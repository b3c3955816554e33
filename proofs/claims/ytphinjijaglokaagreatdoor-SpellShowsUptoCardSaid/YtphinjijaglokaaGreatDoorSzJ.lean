/- strconv.Atoi: what is no short number (it ends, whatever it JnL). -/
import Derived.Test.YtphinjijaglokaaGreatDoorSzI
namespace Go.Vm
open Go Go.Proofs Go.Pa
attribute [local simp] OkP QH OkS Qi OkG Qh Qp OkD JY Qr JI Jm Jq vop Js JB ev evs toV Jl Fr.dsTo Fr.glTo Fr.toNone Ji Jj Jk Qk QL Jd JD Jv V.undef JW JM J7 JX J3 J9 J8 Qa JH J4 J5 JZ JO Qb Jt Ju Jw Jz JE Jr JL JN JK Qq
def Jno (e : V) : Prop := e = .nili ∨ e = .iface 129 (.int .i64 1) ∨ e = .iface 129 (.int .i64 2)
theorem Jpj : ((List.range 256).all fun c => match Jn Tryz.prog true .or 5 (.int .u8 (c : Int)) (.int .u8 32), Jn Tryz.prog false .or 5 (.int .u8 (c : Int)) (.int .u8 32) with
 | some (.int .u8 x), some (.int .u8 y) => decide (x = y)
 | _, _ => false) = true := by kernel_rfl
theorem JpV {c : Nat} (h : c < 256) : ∃ x : Int, ∀ kk, Jn Tryz.prog kk .or 5 (.int .u8 (c : Int)) (.int .u8 32) = some (.int .u8 x) := by
 have := List.all_eq_true.1 Jpj c (List.mem_range.2 h)
 split at this
 ·rename_i x y h1 h2
  have := of_decide_eq_true this
  subst this
  exact ⟨x, fun kk => by cases kk <;> assumption⟩
 ·cases this
theorem Jjk (a : Int) : ∃ x : Int, IntKind.u64.wrap a = x ∧ 0 ≤ x ∧ x < 18446744073709551616 := ⟨_, rfl, by simp [IntKind.wrap, IntKind.bits, IntKind.signed]; omega, by simp [IntKind.wrap, IntKind.bits, IntKind.signed]; omega⟩
def JbH (st : St) (s : S) : St := st.new (.cells (JQ s.toList) 5 false none)
theorem Jh9 (st : St) (s : S) : Jcx Tryz.prog st 9 40 (.str s) = some (.ms st.ctr 0 s.n 1 none, JbH st s) := by
 simp only [Jcx, Tryz.underlying9, Tryz.underlying40, Tryz.underlying5]; rfl
theorem Jds (st : St) (s : S) : Keep st (JbH st s) := (Keep.refl st).new' _
theorem Je3 {st st' : St} {s : S} (k : Keep (JbH st s) st') {i : Nat} (h : i < s.n) : Qe Tryz.prog st' 5 (.ptr st.ctr i) = some (.int .u8 ((s.at i : Nat) : Int)) := by
 have hb : st'.box.get st.ctr = some (.cells (JQ s.toList) 5 false none) := by
  rw [k.box st.ctr (Nat.lt_succ_self _)]; unfold JbH; rw [QC, if_pos rfl]
 refine Qd (off := i) a5 z5 hb ?_
 rw [JQ, List.getElem?_map, s.toList_at h]
 have := S.at_lt s i
 simp only [Option.map_some, Option.some.injEq, V.int.injEq, true_and]
 rw [QU (by omega)]
theorem JoE {id n i : Nat} {cap : Option Nat} (h : i < n) : Jo Tryz.prog 40 (.ms id 0 n 1 cap) (.int .i64 (i : Int)) = some (.ptr id i) := by
 have := nit (off := 0) (n := n) (i := i) (cap := cap) (id := id) h
 rwa [Nat.zero_add] at this
theorem Jok {id n : Nat} {cap : Option Nat} : Jab Tryz.prog 40 (.ms id 0 n 1 cap) = some (.int .i64 (n : Int)) := by simp only [Jab, Tryz.underlying40]
theorem J1 (kk : Bool) : Jn Tryz.prog kk .shl 87 (.int .u64 1) (.int .u64 64) = some (.int .u64 0) := by cases kk <;> kernel_rfl
theorem Qo (kk : Bool) : Jn Tryz.prog kk .shl 87 (.int .u64 1) (.int .u64 63) = some (.int .u64 9223372036854775808) := by cases kk <;> kernel_rfl
theorem Jp (st : St) : QJ Tryz.prog st 3 123 (.int .i64 64) = some (.int .u64 64) := JiC (n := 64) (by omega)
theorem Jy (st : St) : QJ Tryz.prog st 3 123 (.int .i64 63) = some (.int .u64 63) := JiC (n := 63) (by omega)
theorem QB : IntKind.u64.wrap (0 - 1) = 18446744073709551615 := by decide
theorem J2 : IntKind.u64.wrap (-1) = 18446744073709551615 := by decide
theorem Ql (st : St) : QJ Tryz.prog st 3 5 (.int .i64 10) = some (.int .u8 10) := by rw [Q5 Tryz.underlying3 Tryz.underlying5, Ja6 (by omega) (by omega)]
theorem JT (st : St) : QJ Tryz.prog st 3 87 (.int .i64 10) = some (.int .u64 10) := by rw [Q5 Tryz.underlying3 Tryz.underlying87, Jd7 (by omega) (by omega)]
def PuQ (v : V) : Prop := ∃ (n : Int) (e : V), v = .tup [.int .u64 n, e] ∧ Jno e ∧ 0 ≤ n ∧ n < 18446744073709551616
variable [Memo] [NY]
set_option maxRecDepth 100000 in
theorem JlG (gl : Gl) (st : St) (c : Nat) (hc : c < 256) :
  Says Tryz.prog gl 130 [.int .u8 (c : Int)] st (fun v st' => (∃ x : Int, v = .int .u8 x) ∧ Sm st st') := by
 refine JS (NY.no _ rfl rfl rfl _ _) Tryz.func130 rfl (by kernel_rfl) fun R hR K gr gn => ?_
 generalize hfr : Jx gl [.int .u8 (c : Int)] = fr
 have hF : Fs gl [(0, .int .u8 (c : Int))] fr := by subst hfr; simp [Fs]
 simp only [Fs] at hF
 clear hfr
 obtain ⟨x, hx⟩ := JpV hc
 refine Ks_ (Ka_ (gs := [none]) fun K1 gK => ?_)
 simp (disch := omega) []
 refine gK _ _ (Ks_ (Ka_ (gs := [none, none, none]) fun K1 gK => ?_))
 simp (disch := omega) [hF, hx]
 refine gK _ _ (Kq_ (gr _ _ ?_))
 simp [JC, Tryz.f130, hF]
 refine hR _ _ ?_
 exact ⟨⟨x, rfl⟩, rfl⟩
set_option maxHeartbeats 8000000 in
set_option maxRecDepth 100000 in
theorem Jpk (gl : Gl) (st : St) (s : S) (hs0 : s.n ≠ 0) (hs : s.n ≤ 1000000000) :
  Says Tryz.prog gl 120 [.str s, .int .i64 10, .int .i64 0] st (fun v st' => PuQ v ∧ Keep st st') := by
 refine JS (NY.no _ rfl rfl rfl _ _) Tryz.func120 rfl (by kernel_rfl) fun R hR K gr gn => ?_
 generalize hfr : Jx gl [.str s, .int .i64 10, .int .i64 0] = fr
 have hF : Fs gl [(0, .str s), (1, .int .i64 10), (2, .int .i64 0)] fr := by subst hfr; simp [Fs]
 simp only [Fs] at hF
 clear hfr
 have hsm := Jaj s
 rw [decide_eq_false hs0] at hsm
 have kb := Jds st s
 have hbb := Jh9 st s
 refine Ks_ (Ka_ (gs := [none, none]) fun K1 gK => ?_)
 simp (disch := omega) []
 refine gK _ _ (Ks_ (Ks_ (Ka_ (gs := [none, none]) fun K1 gK => ?_)))
 simp (disch := omega) [hF, hsm]
 refine gK _ _ (Kf_ (by simp (disch := omega) []) (Kk_ (Ks_ (Ka_ (gs := [none, none, none]) fun K1 gK => ?_))))
 simp (disch := omega) [hF]
 refine gK _ _ (Ks_ (Ka_ (gs := [none, none]) fun K1 gK => ?_))
 simp (disch := omega) [hF]
 refine gK _ _ (Ks_ ?_)
 refine Kb_ fun K1 gn1 gx1 go1 => ?_
 refine Ks_ (Ka_ (gs := [none, none, none, some (some 28, true), some (some 28, true), none, none]) fun K1 gK => ?_)
 simp (disch := omega) [hF]
 refine gK _ _ (Kt_ (by simp (disch := omega) []) (Kk_ (gn1 _ _ (Ks_ (Ks_ (Ka_ (gs := [none, none]) fun K1 gK => ?_))))))
 simp (disch := omega) [hF]
 refine gK _ _ (Kt_ (by simp (disch := omega) []) (Ka_ (gs := [none]) fun K1 gK => ?_))
 simp (disch := omega) []
 refine gK _ _ (Ks_ (Ka_ (gs := [none]) fun K1 gK => ?_))
 simp (disch := omega) []
 refine gK _ _ (Ks_ (Ks_ (Ka_ (gs := [none]) fun K1 gK => ?_)))
 simp (disch := omega) [hF]
 refine gK _ _ ?_
 refine Kb_ fun K2 gn2 gx2 go2 => ?_
 refine Ks_ (Ka_ (gs := [none, none]) fun K1 gK => ?_)
 simp (disch := omega) []
 refine gK _ _ (Kt_ (by simp (disch := omega) []) (Ka_ (gs := [none]) fun K1 gK => ?_))
 simp (disch := omega) []
 refine gK _ _ (gn2 _ _ (Ks_ (Ka_ (gs := [none, none, none, none, none]) fun K1 gK => ?_)))
 simp (disch := omega) [Jp, J1, J2]
 refine gK _ _ (Ks_ (Ka_ (gs := [none]) fun K1 gK => ?_))
 simp (disch := omega) []
 refine gK _ _ (Ks_ (Ka_ (gs := [none]) fun K1 gK => ?_))
 simp (disch := omega) []
 refine gK _ _ (Ks_ (Ks_ (Ka_ (gs := [none, none, none, none]) fun K1 gK => ?_)))
 simp (disch := omega) [hF, hbb]
 refine gK _ _ ?_
 generalize hq : JbH st s = q at hbb kb
 refine Kl_ (s.n) (fun i fr st' => ∃ (n : Int), Fs gl [(1, .int .i64 10), (8, .bool false), (9, .str s), (10, .int .u64 1844674407370955162), (11, .int .u64 18446744073709551615), (12, .bool false), (13, .int .u64 n), (99, .ms st.ctr 0 s.n 1 none), (100, .int .i64 (s.n : Int)), (101, .int .i64 (i : Int))] fr ∧ i ≤ s.n ∧ (0 ≤ n ∧ n < 18446744073709551616) ∧ Keep q st') (0) (fun fr st' => ∃ (n : Int), Fs gl [(9, .str s), (12, .bool false), (13, .int .u64 n)] fr ∧ (0 ≤ n ∧ n < 18446744073709551616) ∧ Keep q st') ?_ ?_ ?_ ?_
 ·exact ⟨0, by simp [Fs, hF], Nat.zero_le _, ⟨by omega, by omega⟩, .refl _⟩
 ·rintro i fr st' ⟨n, _, hi, hn, hk⟩
  omega
 ·as_aux_lemma =>
  clear hF
  rintro i fr st' ⟨n, hF, hi, hn, hk⟩ K3 gk3 gx3 go3
  simp only [Fs] at hF
  have gr3 := fun fr st h => go3 AE.ret fr st trivial (gr fr st h)
  refine Ks_ (Ka_ (gs := [none]) fun K1 gK => ?_)
  simp (disch := omega) [hF]
  refine gK _ _ (Ks_ ?_)
  by_cases hlt : i < s.n
  ·
   refine Kt_ (by simp (disch := omega) [hlt]) ?_
   have hix := JoE (id := st.ctr) (cap := none) hlt
   have kl : Keep (JbH st s) st' := hq ▸ hk
   have hld := Je3 kl hlt
   obtain ⟨c, hc⟩ : ∃ c, s.at i = c := ⟨_, rfl⟩
   have hc256 : c < 256 := hc ▸ S.at_lt s i
   rw [hc] at hld
   obtain ⟨U, hU⟩ : ∃ b, decide (c = 95) = b := ⟨_, rfl⟩
   obtain ⟨A, hA⟩ : ∃ b, decide (48 ≤ c) = b := ⟨_, rfl⟩
   obtain ⟨B, hB⟩ : ∃ b, decide (c ≤ 57) = b := ⟨_, rfl⟩
   have eU : ∀ kk, Jn Tryz.prog kk .eql 5 (.int .u8 (c : Int)) (.int .u8 95) = some (.bool U) := fun kk => by rw [← hU]; exact JH
   have eA : ∀ kk, Jn Tryz.prog kk .leq 5 (.int .u8 48) (.int .u8 (c : Int)) = some (.bool A) := fun kk => by rw [← hA, JaZ]; congr 2; exact decide_eq_decide.2 (by omega)
   have eB : ∀ kk, Jn Tryz.prog kk .leq 5 (.int .u8 (c : Int)) (.int .u8 57) = some (.bool B) := fun kk => by rw [← hB]; exact JZ
   obtain ⟨v, s1, hc1, ⟨x, rfl⟩, hs1⟩ := Says.use (JlG gl st' c hc256)
   obtain rfl : s1 = st' := hs1
   refine Kk_ (Ks_ ?_)
   refine Kb_ fun K4 gn4 gx4 go4 => ?_
   have gr4 := fun fr st h => go4 AE.ret fr st trivial (gr3 fr st h)
   refine Ks_ (Ka_ (gs := [none, none, none]) fun K1 gK => ?_)
   simp (disch := omega) [hF, hlt, hix, hld]
   refine gK _ _ (Ks_ (Ka_ (gs := [none]) fun K1 gK => ?_))
   simp (disch := omega) []
   refine gK _ _ (Ks_ ?_)
   refine Kb_ fun K5 gn5 gx5 go5 => ?_
   have gr5 := fun fr st h => go5 AE.ret fr st trivial (gr4 fr st h)
   refine Ks_ ?_
   refine Km_ (fun fr st' => Fs gl [(1, .int .i64 10), (8, .bool false), (9, .str s), (10, .int .u64 1844674407370955162), (11, .int .u64 18446744073709551615), (12, .bool false), (13, .int .u64 n), (15, .int .u8 (c : Int)), (99, .ms st.ctr 0 s.n 1 none), (100, .int .i64 (s.n : Int)), (101, .int .i64 (i : Int)), (106, .bool false)] fr ∧ s1 = st') ?_ ?_
   ·as_aux_lemma =>
    intro K6 gm6 go6
    cases U with
    | true =>
     refine Ka_ (gs := [none, none, none, some (some 109, true), none, none]) fun K1 gK => ?_
     simp (disch := omega) [hF, eU]
     refine gK _ _ ?_
     exact gm6 _ _ ⟨by simp [Fs, hF], rfl⟩
    | false =>
     refine Ka_ (gs := [none, none, none, some (some 109, true), none, none]) fun K1 gK => ?_
     simp (disch := omega) [eU]
     refine gK _ _ ?_
     exact gm6 _ _ ⟨by simp [Fs, hF], rfl⟩
   ·as_aux_lemma =>
    clear hF
    rintro fr st' ⟨hF, rfl⟩
    simp only [Fs] at hF
    refine Kf_ (by simp (disch := omega) [hF]) (Ks_ ?_)
    refine Km_ (fun fr st' => Fs gl [(1, .int .i64 10), (8, .bool false), (9, .str s), (10, .int .u64 1844674407370955162), (11, .int .u64 18446744073709551615), (12, .bool false), (13, .int .u64 n), (15, .int .u8 (c : Int)), (99, .ms st.ctr 0 s.n 1 none), (100, .int .i64 (s.n : Int)), (101, .int .i64 (i : Int)), (112, .bool (A && B))] fr ∧ s1 = st') ?_ ?_
    ·as_aux_lemma =>
     intro K7 gm7 go7
     cases A with
     | true =>
      refine Ka_ (gs := [none, none, none, some (some 115, true), some (some 115, true), none, none]) fun K1 gK => ?_
      simp (disch := omega) [hF, eA, eB]
      refine gK _ _ ?_
      exact gm7 _ _ ⟨by simp [Fs, hF], rfl⟩
     | false =>
      refine Ka_ (gs := [none, none, none, some (some 115, true), some (some 115, true), none, none]) fun K1 gK => ?_
      simp (disch := omega) [hF, eA]
      refine gK _ _ ?_
      exact gm7 _ _ ⟨by simp [Fs, hF], rfl⟩
    ·as_aux_lemma =>
     clear hF
     rintro fr st' ⟨hF, rfl⟩
     simp only [Fs] at hF
     obtain ⟨X, hX⟩ : ∃ b, (A && B) = b := ⟨_, rfl⟩
     rw [hX] at hF
     cases X with
     | true =>
      refine Kt_ (by simp (disch := omega) [hF]) ?_
      simp only [Bool.and_eq_true] at hX
      rw [hX.1] at hA
      rw [hX.2] at hB
      have hA := of_decide_eq_true hA
      have hB := of_decide_eq_true hB
      obtain ⟨d, hd⟩ : ∃ d : Nat, c = d + 48 := ⟨c - 48, by omega⟩
      have wd : IntKind.u8.wrap ((c : Int) - 48) = (d : Int) := by rw [Ja6 (by omega) (by omega)]; omega
      have hd10 : ¬ 10 ≤ d := by omega
      obtain ⟨C, hC⟩ : ∃ b, decide (1844674407370955162 ≤ n) = b := ⟨_, rfl⟩
      have eC : ∀ kk, Jn Tryz.prog kk .geq 87 (.int .u64 n) (.int .u64 1844674407370955162) = some (.bool C) := fun kk => by rw [← hC]; exact Ja0
      refine Ka_ (gs := [none, none, none]) fun K1 gK => ?_
      simp (disch := omega) [hF, wd]
      refine gK _ _ (gn5 _ _ (Ks_ (Ks_ (Ka_ (gs := [none, none, none, none]) fun K1 gK => ?_))))
      simp (disch := omega) [hF, Ql, hd10]
      refine gK _ _ (Kf_ (by simp (disch := omega) []) (Kk_ (Ks_ (Ks_ (Ka_ (gs := [none, none, none]) fun K1 gK => ?_)))))
      simp (disch := omega) [hF, eC]
      refine gK _ _ ?_
      cases C with
      | true =>
       refine Kt_ (by simp (disch := omega) []) (Ks_ (Ka_ (gs := [none, none, none, none]) fun K1 gK => ?_))
       simp (disch := omega) [hF]
       refine gK _ _ (Kq_ (gr4 _ _ ?_))
       simp [JC, Tryz.f120, hF]
       refine hR _ _ ?_
       exact ⟨⟨_, _, rfl, .inr (.inl rfl), by omega, by omega⟩, kb.trans hk⟩
      | false =>
       refine Kf_ (by simp (disch := omega) []) ?_
       have hC := of_decide_eq_false hC
       obtain ⟨m, hm⟩ : ∃ m : Int, n * 10 = m := ⟨_, rfl⟩
       have mu : ∀ kk, Jn Tryz.prog kk .mul 87 (.int .u64 n) (.int .u64 10) = some (.int .u64 m) := fun kk => by rw [Qs, Jd7 (by omega) (by omega), hm]
       have cd : ∀ st, QJ Tryz.prog st 5 87 (.int .u8 (d : Int)) = some (.int .u64 (d : Int)) := fun st => by rw [Q5 Tryz.underlying5 Tryz.underlying87, Jd7 (by omega) (by omega)]
       obtain ⟨y, hy, hy0, hy1⟩ := Jjk (m + (d : Int))
       obtain ⟨L, hL⟩ : ∃ b, decide (y < m) = b := ⟨_, rfl⟩
       obtain ⟨G, hG⟩ : ∃ b, decide (18446744073709551615 < y) = b := ⟨_, rfl⟩
       have eL : ∀ kk, Jn Tryz.prog kk .lss 87 (.int .u64 y) (.int .u64 m) = some (.bool L) := fun kk => by rw [← hL]; exact JaO
       have eG : ∀ kk, Jn Tryz.prog kk .gtr 87 (.int .u64 y) (.int .u64 18446744073709551615) = some (.bool G) := fun kk => by rw [← hG]; exact Jb3
       refine Kk_ (Ks_ (Ka_ (gs := [none, none, none, none, none]) fun K1 gK => ?_))
       simp (disch := omega) [hF, JT, mu]
       refine gK _ _ (Ks_ (Ka_ (gs := [none, none, none, none, none]) fun K1 gK => ?_))
       simp (disch := omega) [cd, hy]
       refine gK _ _ (Ks_ (Ks_ ?_))
       refine Km_ (fun fr st' => Fs gl [(1, .int .i64 10), (8, .bool false), (9, .str s), (10, .int .u64 1844674407370955162), (11, .int .u64 18446744073709551615), (12, .bool false), (17, .int .u64 y), (99, .ms st.ctr 0 s.n 1 none), (100, .int .i64 (s.n : Int)), (101, .int .i64 (i : Int)), (159, .bool (L || G))] fr ∧ s1 = st') ?_ ?_
       ·as_aux_lemma =>
        intro K8 gm8 go8
        cases L with
        | true =>
         refine Ka_ (gs := [none, none, none, none, some (some 155, false), some (some 155, false), some (some 155, false), none]) fun K1 gK => ?_
         simp (disch := omega) [eL]
         refine gK _ _ ?_
         exact gm8 _ _ ⟨by simp [Fs, hF], rfl⟩
        | false =>
         refine Ka_ (gs := [none, none, none, none, some (some 155, false), some (some 155, false), some (some 155, false), none]) fun K1 gK => ?_
         simp (disch := omega) [hF, eL, eG]
         refine gK _ _ ?_
         exact gm8 _ _ ⟨by simp [Fs, hF], rfl⟩
       ·as_aux_lemma =>
        clear hF
        rintro fr st' ⟨hF, rfl⟩
        simp only [Fs] at hF
        obtain ⟨Y, hY⟩ : ∃ b, (L || G) = b := ⟨_, rfl⟩
        rw [hY] at hF
        cases Y with
        | true =>
         refine Kt_ (by simp (disch := omega) [hF]) (Ks_ (Ka_ (gs := [none, none, none, none]) fun K1 gK => ?_))
         simp (disch := omega) [hF]
         refine gK _ _ (Kq_ (gr4 _ _ ?_))
         simp [JC, Tryz.f120, hF]
         refine hR _ _ ?_
         exact ⟨⟨_, _, rfl, .inr (.inl rfl), by omega, by omega⟩, kb.trans hk⟩
        | false =>
         refine Kf_ (by simp (disch := omega) [hF]) (Kk_ (Ka_ (gs := [none, none]) fun K1 gK => ?_))
         simp (disch := omega) [hF]
         refine gK _ _ (gn4 _ _ (Ka_ (gs := [none, none]) fun K1 gK => ?_))
         simp (disch := omega) [hF]
         refine gK _ _ ?_
         refine gk3 (i + 1) _ _ (by omega) ⟨y, by simp [Fs, hF], by omega, ⟨hy0, hy1⟩, hk⟩
     | false =>
      refine Kf_ (by simp (disch := omega) [hF]) ?_
      obtain ⟨A2, hA2⟩ : ∃ b, decide (97 ≤ x) = b := ⟨_, rfl⟩
      obtain ⟨B2, hB2⟩ : ∃ b, decide (x ≤ 122) = b := ⟨_, rfl⟩
      have eA2 : ∀ kk, Jn Tryz.prog kk .leq 5 (.int .u8 97) (.int .u8 x) = some (.bool A2) := fun kk => by rw [← hA2]; exact JaZ
      have eB2 : ∀ kk, Jn Tryz.prog kk .leq 5 (.int .u8 x) (.int .u8 122) = some (.bool B2) := fun kk => by rw [← hB2]; exact JaZ
      refine Ks_ ?_
      refine Km_ (fun fr st' => Fs gl [(1, .int .i64 10), (8, .bool false), (9, .str s), (10, .int .u64 1844674407370955162), (11, .int .u64 18446744073709551615), (12, .bool false), (13, .int .u64 n), (15, .int .u8 (c : Int)), (99, .ms st.ctr 0 s.n 1 none), (100, .int .i64 (s.n : Int)), (101, .int .i64 (i : Int)), (121, .bool (A2 && B2))] fr ∧ s1 = st') ?_ ?_
      ·as_aux_lemma =>
       intro K9 gm9 go9
       cases A2 with
       | true =>
        refine Ka_ (gs := [none, none, none, none, some (some 125, true), some (some 125, true), some (some 125, true), none, none]) fun K1 gK => ?_
        simp (disch := omega) [hF, hc1, eA2, eB2]
        refine gK _ _ ?_
        exact gm9 _ _ ⟨by simp [Fs, hF], rfl⟩
       | false =>
        refine Ka_ (gs := [none, none, none, none, some (some 125, true), some (some 125, true), some (some 125, true), none, none]) fun K1 gK => ?_
        simp (disch := omega) [hF, hc1, eA2]
        refine gK _ _ ?_
        exact gm9 _ _ ⟨by simp [Fs, hF], rfl⟩
      ·as_aux_lemma =>
       clear hF
       rintro fr st' ⟨hF, rfl⟩
       simp only [Fs] at hF
       obtain ⟨X2, hX2⟩ : ∃ b, (A2 && B2) = b := ⟨_, rfl⟩
       rw [hX2] at hF
       cases X2 with
       | true =>
        refine Kt_ (by simp (disch := omega) [hF]) ?_
        simp only [Bool.and_eq_true] at hX2
        rw [hX2.1] at hA2
        rw [hX2.2] at hB2
        have hA2 := of_decide_eq_true hA2
        have hB2 := of_decide_eq_true hB2
        obtain ⟨e, he⟩ : ∃ e : Int, x - 97 = e := ⟨_, rfl⟩
        obtain ⟨e', he'⟩ : ∃ e' : Int, e + 10 = e' := ⟨_, rfl⟩
        have w1 : IntKind.u8.wrap (x - 97) = e := by rw [Ja6 (by omega) (by omega), he]
        have w2 : IntKind.u8.wrap (e + 10) = e' := by rw [Ja6 (by omega) (by omega), he']
        have ge : ∀ kk, Jn Tryz.prog kk .geq 5 (.int .u8 e') (.int .u8 10) = some (.bool true) := fun kk => by rw [Ja0, decide_eq_true (by omega)]
        refine Ka_ (gs := [none, none, none, none, none]) fun K1 gK => ?_
        simp (disch := omega) [hF, hc1, w1, w2]
        refine gK _ _ (gn5 _ _ (Ks_ (Ks_ (Ka_ (gs := [none, none, none, none]) fun K1 gK => ?_))))
        simp (disch := omega) [hF, Ql, ge]
        refine gK _ _ (Kt_ (by simp (disch := omega) []) (Ks_ (Ka_ (gs := [none, none, none]) fun K1 gK => ?_)))
        simp (disch := omega) []
        refine gK _ _ (Kq_ (gr4 _ _ ?_))
        simp [JC, Tryz.f120, hF]
        refine hR _ _ ?_
        exact ⟨⟨_, _, rfl, .inr (.inr rfl), by omega, by omega⟩, kb.trans hk⟩
       | false =>
        refine Kf_ (by simp (disch := omega) [hF]) (Ks_ (Ka_ (gs := [none, none, none]) fun K1 gK => ?_))
        simp (disch := omega) []
        refine gK _ _ (Kq_ (gr5 _ _ ?_))
        simp [JC, Tryz.f120, hF]
        refine hR _ _ ?_
        exact ⟨⟨_, _, rfl, .inr (.inr rfl), by omega, by omega⟩, kb.trans hk⟩
  ·
   refine Kf_ (by simp (disch := omega) [hlt]) ?_
   exact Kx_ (gx3 _ _ ⟨n, by simp [Fs, hF, hlt], hn, hk⟩)
 ·as_aux_lemma =>
  clear hF
  rintro fr st' ⟨n, hF, hn, hk⟩
  simp only [Fs] at hF
  refine Ks_ (Ks_ (Ka_ (gs := [none, none, some (some 165, true), some (some 165, true), some (some 165, true), none]) fun K1 gK => ?_))
  simp (disch := omega) [hF]
  refine gK _ _ (Kf_ (by simp (disch := omega) []) (Kk_ (Ks_ (Ka_ (gs := [none, none, none]) fun K1 gK => ?_))))
  simp (disch := omega) [hF]
  refine gK _ _ (Kq_ (gr _ _ ?_))
  simp [JC, Tryz.f120, hF]
  refine hR _ _ ?_
  exact ⟨⟨_, _, rfl, .inl rfl, hn.1, hn.2⟩, kb.trans hk⟩
end Go.Vm
namespace Go.Vm
open Go Go.Proofs Go.Pa
attribute [local simp] OkP QH OkS Qi OkG Qh Qp OkD JY Qr JI Jm Jq vop Js JB ev evs toV Jl Fr.dsTo Fr.glTo Fr.toNone Ji Jj Jk Qk QL Jd JD Jv V.undef JW JM J7 JX J3 J9 J8 Qa JH J4 J5 JZ JO Qb Jt Ju Jw Jz JE Jr JL JN JK Qq
theorem JpW : (match Tryz.prog.underlying 46 with
 | some (.interface _) => true
 | _ => false) = true := by kernel_rfl
theorem JfI {T : TypeId} {x : V} (kk : Bool) : Jn Tryz.prog kk .neq 46 (.iface T x) .nili = some (.bool true) := by
 have h := JpW
 split at h
 ·rename_i m hm
  simp only [Jn, hm]
 ·cases h
theorem Jjl : Jn Tryz.prog true .neq 46 .nili .nili = some (.bool false) := by kernel_rfl
theorem Jnp (kk : Bool) : Jn Tryz.prog kk .neq 46 (.iface 129 (.int .i64 2)) (.iface 129 (.int .i64 1)) = some (.bool true) := by cases kk <;> kernel_rfl
theorem Jnq (kk : Bool) : Jn Tryz.prog kk .neq 46 (.iface 129 (.int .i64 1)) (.iface 129 (.int .i64 1)) = some (.bool false) := by cases kk <;> kernel_rfl
theorem Jnr (kk : Bool) : Jn Tryz.prog kk .eql 46 (.iface 129 (.int .i64 2)) (.iface 129 (.int .i64 2)) = some (.bool true) := by cases kk <;> kernel_rfl
theorem Jns (kk : Bool) : Jn Tryz.prog kk .eql 46 (.iface 129 (.int .i64 1)) (.iface 129 (.int .i64 2)) = some (.bool false) := by cases kk <;> kernel_rfl
theorem Jnt (kk : Bool) : Jn Tryz.prog kk .eql 46 (.iface 129 (.int .i64 1)) (.iface 129 (.int .i64 1)) = some (.bool true) := by cases kk <;> kernel_rfl
theorem JF (P : Program) (n : Int) : QQ P (fun l => Op.unary .neg (l.getD 0 undef)) [.int .i64 n] = some (.int .i64 (IntKind.i64.wrap (0 - n))) := by
 simp only [QQ, Jd, ofV]
 show (match Q2 P (Op.unary .neg (.int .i64 n)) with
  | some v => toV 6 v
  | none => none) = _
 have h2 : Q2 P (Op.unary .neg (.int .i64 n)) = some (.int .i64 (IntKind.i64.wrap (0 - n))) := rfl
 rw [h2]
 rfl
theorem JcG {s : S} (h : 1 ≤ s.n) : Jan Tryz.prog 9 (.str s) (some (.int .i64 1)) none = some (.str (s.cut 1 s.n)) := Jbe (lo := 1) Tryz.underlying9 h
theorem JfJ (st : St) (n : Int) : ∃ m : Int, QJ Tryz.prog st 87 2 (.int .u64 n) = some (.int .i64 m) := ⟨_, Q5 Tryz.underlying87 Tryz.underlying2⟩
theorem Jjm {e : V} (h : Jno e) : ∃ N M : Bool, Jn Tryz.prog true .neq 46 e .nili = some (.bool N) ∧ (N = true → ∀ kk, Jn Tryz.prog kk .neq 46 e (.iface 129 (.int .i64 1)) = some (.bool M)) := by
 rcases h with rfl | rfl | rfl
 ·exact ⟨false, false, Jjl, fun h => by cases h⟩
 ·exact ⟨true, false, JfI _, fun _ => Jnq⟩
 ·exact ⟨true, true, JfI _, fun _ => Jnp⟩
def PiQ (v : V) : Prop := ∃ (n : Int) (e : V), v = .tup [.int .i64 n, e] ∧ Jno e
variable [Memo] [NY]
set_option maxRecDepth 100000 in
theorem Jpl (gl : Gl) (st : St) (s : S) (hs0 : 2 ≤ s.n) (hs : s.n ≤ 1000000000) :
  Says Tryz.prog gl 99 [.str s, .int .i64 10, .int .i64 0] st (fun v st' => PiQ v ∧ Keep st st') := by
 refine JS (NY.no _ rfl rfl rfl _ _) Tryz.func99 rfl (by kernel_rfl) fun R hR K gr gn => ?_
 generalize hfr : Jx gl [.str s, .int .i64 10, .int .i64 0] = fr
 have hF : Fs gl [(0, .str s), (1, .int .i64 10), (2, .int .i64 0)] fr := by subst hfr; simp [Fs]
 simp only [Fs] at hF
 clear hfr
 have hsm := Jaj s
 rw [decide_eq_false (by omega)] at hsm
 obtain ⟨c, hc⟩ : ∃ c, s.at 0 = c := ⟨_, rfl⟩
 have hix : Jao Tryz.prog 9 (.str s) (.int .i64 0) = some (.int .u8 (c : Int)) := by rw [← hc]; exact Qw (i := 0) Tryz.underlying9 (by omega)
 have hsl := JcG (s := s) (by omega)
 obtain ⟨P1, hP1⟩ : ∃ b, decide (c = 43) = b := ⟨_, rfl⟩
 obtain ⟨P2, hP2⟩ : ∃ b, decide (c = 45) = b := ⟨_, rfl⟩
 have e1 : ∀ kk, Jn Tryz.prog kk .eql 5 (.int .u8 (c : Int)) (.int .u8 43) = some (.bool P1) := fun kk => by rw [← hP1]; exact JH
 have e2 : ∀ kk, Jn Tryz.prog kk .eql 5 (.int .u8 (c : Int)) (.int .u8 45) = some (.bool P2) := fun kk => by rw [← hP2]; exact JH
 obtain ⟨s1, hs1, hs1n⟩ : ∃ s1 : S, s1 = (cond (P1 || P2) (s.cut 1 s.n) s) ∧ (s1.n ≠ 0 ∧ s1.n ≤ 1000000000) := ⟨_, rfl, by cases P1 <;> cases P2 <;> simp [JeO] <;> omega⟩
 refine Ks_ (Ka_ (gs := [none, none]) fun K1 gK => ?_)
 simp (disch := omega) []
 refine gK _ _ (Ks_ (Ks_ (Ka_ (gs := [none, none]) fun K1 gK => ?_)))
 simp (disch := omega) [hF, hsm]
 refine gK _ _ (Kf_ (by simp (disch := omega) []) (Kk_ (Ks_ (Ka_ (gs := [none]) fun K1 gK => ?_))))
 simp (disch := omega) []
 refine gK _ _ (Ks_ (Ks_ (Ka_ (gs := [none, none]) fun K1 gK => ?_)))
 simp (disch := omega) [hF, hix]
 refine gK _ _ ?_
 refine Km_ (fun fr st' => Fs gl [(0, .str s1), (1, .int .i64 10), (2, .int .i64 0), (8, .bool (!P1 && P2))] fr ∧ st = st') ?_ ?_
 ·as_aux_lemma =>
  intro K1 gm1 go1
  refine Kb_ fun K2 gn2 gx2 go2 => ?_
  refine Ks_ (Ka_ (gs := [none, none]) fun K1 gK => ?_)
  simp (disch := omega) [e1]
  refine gK _ _ ?_
  cases P1 with
  | true =>
   refine Kt_ (by simp (disch := omega) []) ?_
   simp only [Bool.true_or, cond_true] at hs1
   refine Ka_ (gs := [none, none, none]) fun K1 gK => ?_
   simp (disch := omega) [hF, hsl]
   refine gK _ _ (gn2 _ _ ?_)
   exact gm1 _ _ ⟨by simp [Fs, hF, hs1],  rfl⟩
  | false =>
   refine Kf_ (by simp (disch := omega) []) (Ks_ (Ka_ (gs := [none, none]) fun K1 gK => ?_))
   simp (disch := omega) [e2]
   refine gK _ _ ?_
   cases P2 with
   | true =>
    refine Kt_ (by simp (disch := omega) []) ?_
    simp only [Bool.or_true, cond_true] at hs1
    refine Ks_ (Ka_ (gs := [none, none, none]) fun K1 gK => ?_)
    simp (disch := omega) [hF, hsl]
    refine gK _ _ (Ka_ (gs := [none]) fun K1 gK => ?_)
    simp (disch := omega) []
    refine gK _ _ (gn2 _ _ ?_)
    exact gm1 _ _ ⟨by simp [Fs, hF, hs1],  rfl⟩
   | false =>
    refine Kf_ (by simp (disch := omega) []) ?_
    simp only [Bool.or_self, cond_false] at hs1
    refine Kk_ (gn2 _ _ ?_)
    exact gm1 _ _ ⟨by simp [Fs, hF, hs1],  rfl⟩
 ·as_aux_lemma =>
  clear hF
  rintro fr st' ⟨hF, rfl⟩
  simp only [Fs] at hF
  obtain ⟨v, s2, hc2, ⟨n, e, rfl, he, hn0, hn1⟩, hk2⟩ := Says.use (Jpk gl st s1 hs1n.1 hs1n.2)
  obtain ⟨N, M, eN, eM⟩ := Jjm he
  obtain ⟨NG, hNG⟩ : ∃ b, (!P1 && P2) = b := ⟨_, rfl⟩
  rw [hNG] at hF
  obtain ⟨C, hC⟩ : ∃ b, decide (9223372036854775808 ≤ n) = b := ⟨_, rfl⟩
  obtain ⟨D, hD⟩ : ∃ b, decide (9223372036854775808 < n) = b := ⟨_, rfl⟩
  have eC : ∀ kk, Jn Tryz.prog kk .geq 87 (.int .u64 n) (.int .u64 9223372036854775808) = some (.bool C) := fun kk => by rw [← hC]; exact Ja0
  have eD : ∀ kk, Jn Tryz.prog kk .gtr 87 (.int .u64 n) (.int .u64 9223372036854775808) = some (.bool D) := fun kk => by rw [← hD]; exact Jb3
  have w1 : IntKind.u64.wrap (9223372036854775808 - 1) = 9223372036854775807 := by decide
  have w1' : IntKind.u64.wrap 9223372036854775807 = 9223372036854775807 := by decide
  obtain ⟨m1, c1⟩ := JfJ s2 9223372036854775807
  obtain ⟨m2, c2⟩ := JfJ s2 9223372036854775808
  obtain ⟨m3, c3⟩ := JfJ s2 n
  refine Ks_ (Ka_ (gs := [none]) fun K1 gK => ?_)
  simp (disch := omega) []
  refine gK _ _ (Ks_ (Ka_ (gs := [none, none, none, none, none, none, none, none, none]) fun K1 gK => ?_))
  simp (disch := omega) [hF, hc2]
  refine gK _ _ (Ks_ (Ks_ ?_))
  refine Km_ (fun fr st' => Fs gl [(2, .int .i64 0), (7, e), (8, .bool NG), (9, .int .u64 n), (38, .bool (N && M))] fr ∧ s2 = st') ?_ ?_
  ·as_aux_lemma =>
   intro K3 gm3 go3
   cases N with
   | true =>
    have eM' := eM rfl
    refine Ka_ (gs := [none, none, none, some (some 34, true), some (some 34, true), some (some 34, true), none]) fun K1 gK => ?_
    simp (disch := omega) [eN, isK, eM']
    refine gK _ _ ?_
    exact gm3 _ _ ⟨by simp [Fs, hF], rfl⟩
   | false =>
    refine Ka_ (gs := [none, none, none, some (some 34, true), some (some 34, true), some (some 34, true), none]) fun K1 gK => ?_
    simp (disch := omega) [eN, isK]
    refine gK _ _ ?_
    exact gm3 _ _ ⟨by simp [Fs, hF], rfl⟩
  ·as_aux_lemma =>
   clear hF
   rintro fr st' ⟨hF, rfl⟩
   simp only [Fs] at hF
   obtain ⟨X, hX⟩ : ∃ b, (N && M) = b := ⟨_, rfl⟩
   rw [hX] at hF
   cases X with
   | true =>
    refine Kt_ (by simp (disch := omega) [hF]) (Ks_ (Ka_ (gs := [none, none, none]) fun K1 gK => ?_))
    simp (disch := omega) [hF]
    refine gK _ _ (Kq_ (gr _ _ ?_))
    simp [JC, Tryz.f99, hF]
    refine hR _ _ ?_
    exact ⟨⟨_, _, rfl, he⟩, hk2⟩
   | false =>
    refine Kf_ (by simp (disch := omega) [hF]) ?_
    cases NG with
    | true =>
     refine Kk_ (Ks_ (Ks_ (Ka_ (gs := [none, none]) fun K1 gK => ?_)))
     simp (disch := omega) [hF, isK]
     refine gK _ _ (Kt_ (by simp (disch := omega) []) (Ka_ (gs := [none]) fun K1 gK => ?_))
     simp (disch := omega) []
     refine gK _ _ (Ks_ (Ka_ (gs := [none, none, none, none, none]) fun K1 gK => ?_))
     simp (disch := omega) [Qo, Jy, isK]
     refine gK _ _ (Ks_ (Ks_ (Ka_ (gs := [none, none, none, some (some 48, true), some (some 48, true), some (some 48, true), none]) fun K1 gK => ?_)))
     simp (disch := omega) [hF]
     refine gK _ _ (Kf_ (by simp (disch := omega) []) (Kk_ (Ks_ (Ks_ (Ka_ (gs := [none, none, some (some 58, true), some (some 58, true), some (some 58, true), none]) fun K1 gK => ?_)))))
     simp (disch := omega) [hF, eD, isK]
     refine gK _ _ ?_
     cases D with
     | true =>
      refine Kt_ (by simp (disch := omega) []) (Ks_ (Ka_ (gs := [none, none, none, none, none, none]) fun K1 gK => ?_))
      simp (disch := omega) [c2]
      refine gK _ _ (Kq_ (gr _ _ ?_))
      simp [JC, Tryz.f99, hF]
      refine hR _ _ ?_
      exact ⟨⟨_, _, rfl, .inr (.inl rfl)⟩, hk2⟩
     | false =>
      refine Kf_ (by simp (disch := omega) []) (Kk_ (Ks_ (Ka_ (gs := [none, none, none]) fun K1 gK => ?_)))
      simp (disch := omega) [hF, c3]
      refine gK _ _ (Ks_ (Ks_ (Ka_ (gs := [none]) fun K1 gK => ?_)))
      simp (disch := omega) [hF]
      refine gK _ _ (Kt_ (by simp (disch := omega) []) (Ka_ (gs := [none, none, none]) fun K1 gK => ?_))
      simp (disch := omega) []
      refine gK _ _ (Ks_ (Ka_ (gs := [none, none, none]) fun K1 gK => ?_))
      simp (disch := omega) []
      refine gK _ _ (Kq_ (gr _ _ ?_))
      simp [JC, Tryz.f99, hF]
      refine hR _ _ ?_
      exact ⟨⟨_, _, rfl, .inl rfl⟩, hk2⟩
    | false =>
     cases C with
     | true =>
      refine Kk_ (Ks_ (Ks_ (Ka_ (gs := [none, none]) fun K1 gK => ?_)))
      simp (disch := omega) [hF, isK]
      refine gK _ _ (Kt_ (by simp (disch := omega) []) (Ka_ (gs := [none]) fun K1 gK => ?_))
      simp (disch := omega) []
      refine gK _ _ (Ks_ (Ka_ (gs := [none, none, none, none, none]) fun K1 gK => ?_))
      simp (disch := omega) [Qo, Jy, isK]
      refine gK _ _ (Ks_ (Ks_ (Ka_ (gs := [none, none, none, some (some 48, true), some (some 48, true), some (some 48, true), none]) fun K1 gK => ?_)))
      simp (disch := omega) [hF, eC, isK]
      refine gK _ _ (Kt_ (by simp (disch := omega) []) (Ks_ (Ka_ (gs := [none, none, none, none, none, none]) fun K1 gK => ?_)))
      simp (disch := omega) [w1', c1, isK]
      refine gK _ _ (Kq_ (gr _ _ ?_))
      simp [JC, Tryz.f99, hF]
      refine hR _ _ ?_
      exact ⟨⟨_, _, rfl, .inr (.inl rfl)⟩, hk2⟩
     | false =>
      refine Kk_ (Ks_ (Ks_ (Ka_ (gs := [none, none]) fun K1 gK => ?_)))
      simp (disch := omega) [hF, isK]
      refine gK _ _ (Kt_ (by simp (disch := omega) []) (Ka_ (gs := [none]) fun K1 gK => ?_))
      simp (disch := omega) []
      refine gK _ _ (Ks_ (Ka_ (gs := [none, none, none, none, none]) fun K1 gK => ?_))
      simp (disch := omega) [Qo, Jy, isK]
      refine gK _ _ (Ks_ (Ks_ (Ka_ (gs := [none, none, none, some (some 48, true), some (some 48, true), some (some 48, true), none]) fun K1 gK => ?_)))
      simp (disch := omega) [hF, eC, isK]
      refine gK _ _ (Kf_ (by simp (disch := omega) []) (Kk_ (Ks_ (Ks_ (Ka_ (gs := [none, none, some (some 58, true), some (some 58, true), some (some 58, true), none]) fun K1 gK => ?_)))))
      simp (disch := omega) [hF]
      refine gK _ _ (Kf_ (by simp (disch := omega) []) (Kk_ (Ks_ (Ka_ (gs := [none, none, none]) fun K1 gK => ?_))))
      simp (disch := omega) [hF, c3]
      refine gK _ _ (Ks_ (Ks_ (Ka_ (gs := [none]) fun K1 gK => ?_)))
      simp (disch := omega) [hF]
      refine gK _ _ (Kf_ (by simp (disch := omega) []) (Kk_ (Ks_ (Ka_ (gs := [none, none, none]) fun K1 gK => ?_))))
      simp (disch := omega) []
      refine gK _ _ (Kq_ (gr _ _ ?_))
      simp [JC, Tryz.f99, hF]
      refine hR _ _ ?_
      exact ⟨⟨_, _, rfl, .inl rfl⟩, hk2⟩
end Go.Vm
