/- Numbers and texts at a text's begin: by the document. -/
import Derived.Test.YtphinjijaglokaaGreatDoorSzN
namespace Go.Vm
open Go Go.Proofs Go.Pa
attribute [local simp] OkP QH OkS Qi OkG Qh Qp OkD JY Qr JI Jm Jq vop Js JB ev evs toV Jl Fr.dsTo Fr.glTo Fr.toNone Ji Jj Jk Qk QL Jd JD Jv V.undef JW JM J7 JX J3 J9 J8 Qa JH J4 J5 JZ JO Qb Jt Ju Jw Jz JE Jr JL JN JK Qq
def JoP (l : List UInt8) : Prop := ∀ b ∈ l, 48 ≤ b.toNat ∧ b.toNat ≤ 57
theorem Jmq : ∀ {l : List UInt8} {b : UInt8}, 49 ≤ b.toNat → 1 ≤ JdN (b :: l) := fun {l b} hb => by
 have key : ∀ (l : List UInt8) (a : Nat), 1 ≤ a → 1 ≤ l.foldl (fun a b => a * 10 + (b.toNat - 48)) a := fun l => by
  induction l with
  | nil => exact fun a h => h
  | cons c l ih => exact fun a h => ih (a * 10 + (c.toNat - 48)) (by omega)
 exact key l (0 * 10 + (b.toNat - 48)) (by omega)
theorem Jov : ∀ (n : Nat) (l : List UInt8), l.length = n + 1 → JoP l → (l.head? = some 48 → l.length = 1) → QW (JdN l) = l
 | 0, l, hl, hd, _ => by
  match l, hl with
  | [b], _ =>
   have := hd b (by simp)
   rw [show JdN [b] = b.toNat - 48 by simp [JdN], Ja4 (by omega), show 48 + (b.toNat - 48) = b.toNat by omega]
   simp
 | n + 1, l, hl, hd, hz => by
  have hne : l ≠ [] := by intro h; rw [h] at hl; simp at hl
  obtain ⟨l', b, rfl⟩ : ∃ l' b, l = l' ++ [b] := ⟨l.dropLast, l.getLast hne, (List.dropLast_concat_getLast hne).symm⟩
  have hl' : l'.length = n + 1 := by simpa using hl
  have hb := hd b (by simp)
  have hd' : JoP l' := fun c hc => hd c (by simp [hc])
  match l', hl' with
  | c :: r, hl' =>
   have hc := hd' c (by simp)
   have hc9 : 49 ≤ c.toNat := by
    by_cases h : c = 48
    ·have := hz (by simp [h])
     simp at this
    ·have : c.toNat ≠ 48 := fun he => h (UInt8.toNat.inj he)
     omega
   have hp := Jmq (l := r) hc9
   have ih := Jov n (c :: r) hl' hd' (fun h => by
    simp only [List.head?_cons, Option.some.injEq] at h
    subst h
    exact absurd hc9 (by decide))
   rw [Jdk, QG (by omega), show (JdN (c :: r) * 10 + (b.toNat - 48)) / 10 = JdN (c :: r) by omega, ih, show 48 + (JdN (c :: r) * 10 + (b.toNat - 48)) % 10 = b.toNat by omega]
   simp
theorem Jle (n : Nat) : (QW n).head? = some 48 → (QW n).length = 1 := by
 induction n using Nat.strongRecOn with
 | ind n ih =>
  intro h
  by_cases hn : n < 10
  ·rw [Ja4 hn]; rfl
  ·rw [QG (by omega)] at h
   have hne := Jdl (n / 10)
   rw [List.head?_append, show ((QW (n / 10)).head?.or [UInt8.ofNat (48 + n % 10)].head?) = (QW (n / 10)).head? from by cases hd : QW (n / 10) with | nil => exact absurd hd hne | cons => rfl] at h
   have h1 := ih (n / 10) (by omega) h
   exfalso
   by_cases h2 : n / 10 < 10
   ·rw [Ja4 h2] at h
    simp only [List.head?_cons, Option.some.injEq] at h
    have := congrArg UInt8.toNat h
    rw [QU (by omega)] at this
    have h48 : (48 : UInt8).toNat = 48 := rfl
    omega
   ·rw [QG (n := n / 10) (by omega), List.length_append] at h1
    have := List.length_pos_iff.2 (Jdl (n / 10 / 10))
    simp only [List.length_singleton] at h1; omega
structure NumTo (s : S) (i n : Nat) : Prop where
 le : i ≤ s.n
 dg : ∀ j, j < i → 48 ≤ s.at j ∧ s.at j ≤ 57
 vl : n = JdN (s.toList.take i)
 bd : n < 10 ^ i
theorem Jmr {s : S} {i : Nat} (hi : i ≤ s.n) (h : ∀ j, j < i → 48 ≤ s.at j ∧ s.at j ≤ 57) : JoP (s.toList.take i) := fun b hb => by
 obtain ⟨j, hj, rfl⟩ := List.getElem_of_mem hb
 have hji : j < i := by simp at hj; omega
 have h1 := s.toList_at (i := j) (by omega)
 have hl : j < s.toList.length := by rw [S.len]; omega
 rw [List.getElem?_eq_getElem hl] at h1
 have h2 : s.toList[j] = UInt8.ofNat (s.at j) := by simpa using h1
 rw [List.getElem_take, h2, QU (by have := S.at_lt s j; omega)]
 exact h j hji
theorem NumTo.yes {s : S} {i n : Nat} (h : NumTo s i n) (h6 : i ≤ 6) (h0 : i ≠ 0) (hl : i < s.n) (hc : s.at i = 58) (hz : s.at 0 = 48 → i ≤ 1) : NumAt s.toList n (s.cut (i + 1) s.n).toList := by
 have hp := Jfz h6
 have hb := h.bd
 refine ⟨by omega, ?_⟩
 have hlen : (s.toList.take i).length = (i - 1) + 1 := by rw [List.length_take, S.len]; omega
 have h1 := s.toList_at (i := 0) (by omega)
 have hcan := Jov (i - 1) (s.toList.take i) hlen (Jmr h.le h.dg) (fun hh => by
  have : (s.toList.take i).head? = some (UInt8.ofNat (s.at 0)) := by
   rw [List.head?_eq_getElem?, List.getElem?_take, if_pos (by omega), h1]
  rw [this, Option.some.injEq] at hh
  have h2 := congrArg UInt8.toNat hh
  rw [QU (by have := S.at_lt s 0; omega)] at h2
  have h48 : (48 : UInt8).toNat = 48 := rfl
  rw [hlen]
  have := hz (by omega); omega)
 rw [h.vl, hcan, Jbf s (by omega)]
 have h3 := s.toList_at hl
 rw [hc] at h3
 have hll : i < s.toList.length := by rw [S.len]; exact hl
 rw [List.getElem?_eq_getElem hll] at h3
 have h4 := List.drop_eq_getElem_cons hll
 rw [show s.toList[i] = 58 from by simpa using h3] at h4
 rw [← h4, List.take_append_drop]
theorem NumTo.no {s : S} {i n : Nat} (h : NumTo s i n) (he : i = s.n ∨ i = 6 ∨ (i < s.n ∧ ¬ (48 ≤ s.at i ∧ s.at i ≤ 57))) (hb : i = 0 ∨ i = s.n ∨ s.at i ≠ 58 ∨ (s.at 0 = 48 ∧ 1 < i)) : ∀ m r, ¬ NumAt s.toList m r := fun m r hm => by
 have hlen := congrArg List.length hm.2
 rw [S.len] at hlen
 simp at hlen
 have h1 := List.length_pos_iff.2 (Jdl m)
 have h2 := JaP hm.1
 obtain ⟨k, hk⟩ : ∃ k, (QW m).length = k := ⟨_, rfl⟩
 rw [hk] at hlen h1 h2
 have hat : ∀ j, j < k → 48 ≤ s.at j ∧ s.at j ≤ 57 := fun j hj => by
  have h3 := s.toList_at (i := j) (by omega)
  rw [hm.2, List.getElem?_append_left (by omega)] at h3
  have h4 := Jeh _ _ _ (List.mem_of_getElem? h3)
  rw [QU (by have := S.at_lt s j; omega)] at h4
  exact h4
 have hk58 : s.at k = 58 := by
  have h3 := s.toList_at (i := k) (by omega)
  rw [hm.2, List.getElem?_append_right (by omega), hk, Nat.sub_self] at h3
  simp only [List.getElem?_cons_zero, Option.some.injEq] at h3
  have := congrArg UInt8.toNat h3
  rw [QU (by have := S.at_lt s k; omega)] at this
  exact this.symm
 have hik : i = k := by
  rcases Nat.lt_trichotomy i k with hlt | heq | hgt
  ·have := hat i hlt
   rcases he with he | he | he <;> omega
  ·exact heq
  ·have := h.dg k hgt; omega
 subst hik
 rcases hb with hb | hb | hb | ⟨hb, hb1⟩
 ·omega
 ·omega
 ·exact hb hk58
 ·have := Jle m (by
   have h3 := s.toList_at (i := 0) (by omega)
   rw [hm.2, List.getElem?_append_left (by omega), hb] at h3
   rw [List.head?_eq_getElem?, h3]; rfl)
  omega
def Jpz (s : S) (v : V) : Prop := ∃ (n : Nat) (r : S) (ok : Bool), v = .tup [.int .i64 (n : Int), .str r, .bool ok] ∧ n < 1000000 ∧ r.n ≤ s.n ∧ (ok = true → NumAt s.toList n r.toList) ∧ (ok = false → ∀ n r, ¬ NumAt s.toList n r)
def JoQ (s : S) (v : V) : Prop := ∃ (z r : S) (ok : Bool), v = .tup [.str z, .str r, .bool ok] ∧ r.n ≤ s.n ∧ (ok = true → z.n < 1000000 ∧ s.toList = JaN z ++ r.toList) ∧ (ok = false → JdT s.toList)
variable [Memo] [NY] [NZ]
set_option maxHeartbeats 8000000 in
set_option maxRecDepth 100000 in
omit [NZ] in
theorem JkF (gl : Gl) (st : St) (s : S) (hs : s.n ≤ 1000000000) :
  Says Tryz.prog gl 57 [.str s] st (fun v st' => Jpz s v ∧ Keep st st') := by
 refine JS (NY.no _ rfl rfl rfl _ _) Tryz.func57 rfl (by kernel_rfl) fun R hR K gr gn => ?_
 generalize hfr : Jx gl [.str s] = fr
 have hF : Fs gl [(0, .str s)] fr := by subst hfr; simp [Fs]
 simp only [Fs] at hF
 clear hfr
 refine Ks_ (Ka_ (gs := [none, none, none]) fun K1 gK => ?_)
 simp (disch := omega) []
 refine gK _ _ (Ks_ (Ka_ (gs := [none, none]) fun K1 gK => ?_))
 simp (disch := omega) []
 refine gK _ _ (Ks_ ?_)
 refine Kl_ (6) (fun i fr st' => ∃ (n : Nat), Fs gl [(0, .str s), (5, .int .i64 (n : Int)), (6, .int .i64 (i : Int))] fr ∧ i ≤ 6 ∧ NumTo s i n ∧ st = st') (0) (fun fr st' => ∃ (n i : Nat), Fs gl [(0, .str s), (5, .int .i64 (n : Int)), (6, .int .i64 (i : Int))] fr ∧ i ≤ 6 ∧ NumTo s i n ∧ (i = s.n ∨ i = 6 ∨ (i < s.n ∧ ¬ (48 ≤ s.at i ∧ s.at i ≤ 57))) ∧ st = st') ?_ ?_ ?_ ?_
 ·exact ⟨0, by simp [Fs, hF], Nat.zero_le _, ⟨Nat.zero_le _, fun j hj => absurd hj (Nat.not_lt_zero j), rfl, by simp⟩, rfl⟩
 ·rintro i fr st' ⟨n, _, hi, hn, rfl⟩
  omega
 ·as_aux_lemma =>
  clear hF
  rintro i fr st' ⟨n, hF, hi, hn, rfl⟩ K1 gk1 gx1 go1
  simp only [Fs] at hF
  obtain ⟨c, hc⟩ : ∃ c, s.at i = c := ⟨_, rfl⟩
  have hc256 : c < 256 := hc ▸ S.at_lt s i
  have hix : i < s.n → Jao Tryz.prog 9 (.str s) (.int .i64 (i : Int)) = some (.int .u8 (c : Int)) := fun h => by rw [← hc]; exact Qw Tryz.underlying9 h
  obtain ⟨A, hA⟩ : ∃ b, decide (i < s.n) = b := ⟨_, rfl⟩
  obtain ⟨B, hB⟩ : ∃ b, decide (i < 6) = b := ⟨_, rfl⟩
  obtain ⟨C, hC⟩ : ∃ b, decide (48 ≤ c) = b := ⟨_, rfl⟩
  obtain ⟨D, hD⟩ : ∃ b, decide (c ≤ 57) = b := ⟨_, rfl⟩
  have eA : ∀ kk, Jn Tryz.prog kk .lss 3 (.int .i64 (i : Int)) (.int .i64 (s.n : Int)) = some (.bool A) := fun kk => by rw [← hA]; exact J3
  have eB : ∀ kk, Jn Tryz.prog kk .lss 3 (.int .i64 (i : Int)) (.int .i64 6) = some (.bool B) := fun kk => by rw [← hB]; exact J5
  have eC : ∀ kk, Jn Tryz.prog kk .geq 5 (.int .u8 (c : Int)) (.int .u8 48) = some (.bool C) := fun kk => by rw [← hC]; exact Qb
  have eD : ∀ kk, Jn Tryz.prog kk .leq 5 (.int .u8 (c : Int)) (.int .u8 57) = some (.bool D) := fun kk => by rw [← hD]; exact JZ
  refine Ks_ (Ks_ ?_)
  refine Km_ (fun fr st' => Fs gl [(0, .str s), (5, .int .i64 (n : Int)), (6, .int .i64 (i : Int)), (26, .bool (((A && B) && C) && D))] fr ∧ st = st') ?_ ?_
  ·as_aux_lemma =>
   intro K2 gm2 go2
   refine Ka_ (gs := [none, none, none, none, none, some (some 11, true), some (some 11, true), none, none, some (some 15, true), some (some 15, true), some (some 15, true), some (some 15, true), none, none, some (some 21, true), some (some 21, true), some (some 21, true), some (some 21, true), none]) fun K1 gK => ?_
   refine OkG.cutK 9 (fun fr st' => Fs gl [(0, .str s), (5, .int .i64 (n : Int)), (6, .int .i64 (i : Int)), (15, .bool (A && B))] fr ∧ st = st') (by kernel_rfl) ?_ ?_
   ·as_aux_lemma =>
    intro Kc gKc
    simp only [List.take]
    cases A with
    | true =>
     simp (disch := omega) [hF, Jb, eA, eB]
     exact gKc _ _ ⟨by simp [Fs, hF], rfl⟩
    | false =>
     simp (disch := omega) [hF, Jb, eA]
     exact gKc _ _ ⟨by simp [Fs, hF], rfl⟩
   ·as_aux_lemma =>
    clear hF
    rintro fr st' ⟨hF, rfl⟩
    simp only [Fs] at hF
    simp only [List.drop]
    obtain ⟨X, hX⟩ : ∃ b, (A && B) = b := ⟨_, rfl⟩
    rw [hX] at hF
    refine OkG.cutK 6 (fun fr st' => Fs gl [(0, .str s), (5, .int .i64 (n : Int)), (6, .int .i64 (i : Int)), (21, .bool (X && C))] fr ∧ st = st') (by kernel_rfl) ?_ ?_
    ·as_aux_lemma =>
     intro Kc gKc
     simp only [List.take]
     cases X with
     | true =>
      have hix := hix (by simp only [Bool.and_eq_true] at hX; rw [hX.1] at hA; exact of_decide_eq_true hA)
      simp (disch := omega) [hF, eC, hix]
      exact gKc _ _ ⟨by simp [Fs, hF], rfl⟩
     | false =>
      simp (disch := omega) [hF]
      exact gKc _ _ ⟨by simp [Fs, hF], rfl⟩
    ·as_aux_lemma =>
     clear hF
     rintro fr st' ⟨hF, rfl⟩
     simp only [Fs] at hF
     simp only [List.drop]
     obtain ⟨Y, hY⟩ : ∃ b, (X && C) = b := ⟨_, rfl⟩
     rw [hY] at hF
     cases Y with
     | true =>
      have hix := hix (by simp only [Bool.and_eq_true] at hY; rw [hY.1] at hX; simp only [Bool.and_eq_true] at hX; rw [hX.1] at hA; exact of_decide_eq_true hA)
      simp (disch := omega) [hF, eD, hix]
      refine gK _ _ ?_
      exact gm2 _ _ ⟨by simp [Fs, hF, hX, hY],  rfl⟩
     | false =>
      simp (disch := omega) [hF]
      refine gK _ _ ?_
      exact gm2 _ _ ⟨by simp [Fs, hF, hX, hY],  rfl⟩
  ·as_aux_lemma =>
   clear hF
   rintro fr st' ⟨hF, rfl⟩
   simp only [Fs] at hF
   obtain ⟨Z, hZ⟩ : ∃ b, (((A && B) && C) && D) = b := ⟨_, rfl⟩
   rw [hZ] at hF
   cases Z with
   | true =>
    refine Kt_ (by simp (disch := omega) [hF]) ?_
    have hz : i < s.n ∧ i < 6 ∧ 48 ≤ c ∧ c ≤ 57 := by
     rw [← hA, ← hB, ← hC, ← hD] at hZ
     simp only [Bool.and_eq_true, decide_eq_true_eq] at hZ
     omega
    obtain ⟨z1, z2, z3, z4⟩ := hz
    have hix := hix z1
    obtain ⟨d, hd⟩ : ∃ d : Nat, c = d + 48 := ⟨c - 48, by omega⟩
    have wd : IntKind.u8.wrap ((c : Int) - 48) = (d : Int) := by rw [Ja6 (by omega) (by omega)]; omega
    have hp := Jfz hi
    have hnb := hn.bd
    obtain ⟨m, hm⟩ : ∃ m : Nat, 10 * n = m := ⟨_, rfl⟩
    have mu : ∀ kk, Jn Tryz.prog kk .mul 3 (.int .i64 10) (.int .i64 (n : Int)) = some (.int .i64 (m : Int)) := fun kk => by rw [Qs, Jr (by omega) (by omega)]; congr 2; omega
    have cd : ∀ st, QJ Tryz.prog st 5 3 (.int .u8 (d : Int)) = some (.int .i64 (d : Int)) := fun st => by rw [Q5 Tryz.underlying5 Tryz.underlying3, Jr (by omega) (by omega)]
    refine Kk_ ?_
    refine Kb_ fun K3 gn3 gx3 go3 => ?_
    refine Ks_ (Ka_ (gs := [none, none, none, none, none, none, none, none, none]) fun K1 gK => ?_)
    simp (disch := omega) [hF, hix, wd, mu, cd]
    refine gK _ _ (Ka_ (gs := [none, none, none]) fun K1 gK => ?_)
    simp (disch := omega) [hF]
    refine gK _ _ (gn3 _ _ ?_)
    refine gk1 (i + 1) _ _ (by omega) ⟨m + d, by simp [Fs, hF], by omega, ⟨by omega, (fun j hj => by by_cases hji : j = i; (subst hji; omega); exact hn.dg j (by omega)), (by rw [JkH z1, Jdk, ← hn.vl, hc, QU hc256]; omega), (by rw [Nat.pow_succ]; omega)⟩, rfl⟩
   | false =>
    refine Kf_ (by simp (disch := omega) [hF]) ?_
    exact Kx_ (gx1 _ _ ⟨n, i, by simp [Fs, hF], hi, hn, (by have h1 := hn.le; rw [← hA, ← hB, ← hC, ← hD] at hZ; rw [hc]; by_cases a1 : i < s.n; rotate_left; (exact .inl (by omega)); by_cases a2 : i < 6; rotate_left; (exact .inr (.inl (by omega))); exact .inr (.inr ⟨a1, fun a3 => by simp [a1, a2, a3.1, a3.2] at hZ⟩)), rfl⟩)
 ·as_aux_lemma =>
  clear hF
  rintro fr st' ⟨n, i, hF, hi, hn, he, rfl⟩
  simp only [Fs] at hF
  obtain ⟨c, hc⟩ : ∃ c, s.at i = c := ⟨_, rfl⟩
  obtain ⟨c0, hc0⟩ : ∃ c, s.at 0 = c := ⟨_, rfl⟩
  have hile := hn.le
  have hix : i < s.n → Jao Tryz.prog 9 (.str s) (.int .i64 (i : Int)) = some (.int .u8 (c : Int)) := fun h => by rw [← hc]; exact Qw Tryz.underlying9 h
  have hix0 : 0 < s.n → Jao Tryz.prog 9 (.str s) (.int .i64 0) = some (.int .u8 (c0 : Int)) := fun h => by rw [← hc0]; exact Qw (i := 0) Tryz.underlying9 h
  obtain ⟨P, hP⟩ : ∃ b, decide (i = 0) = b := ⟨_, rfl⟩
  obtain ⟨Q, hQ⟩ : ∃ b, decide (i = s.n) = b := ⟨_, rfl⟩
  obtain ⟨E, hE⟩ : ∃ b, decide (c = 58) = b := ⟨_, rfl⟩
  obtain ⟨Z, hZ⟩ : ∃ b, decide (c0 = 48) = b := ⟨_, rfl⟩
  obtain ⟨G, hG⟩ : ∃ b, decide (1 < i) = b := ⟨_, rfl⟩
  have eP : ∀ kk, Jn Tryz.prog kk .eql 3 (.int .i64 (i : Int)) (.int .i64 0) = some (.bool P) := fun kk => by rw [← hP]; exact JH
  have eQ : ∀ kk, Jn Tryz.prog kk .eql 3 (.int .i64 (i : Int)) (.int .i64 (s.n : Int)) = some (.bool Q) := fun kk => by rw [← hQ]; exact J7
  have eE : ∀ kk, Jn Tryz.prog kk .neq 5 (.int .u8 (c : Int)) (.int .u8 58) = some (.bool (!E)) := fun kk => by rw [← hE]; exact J4
  have eZ : ∀ kk, Jn Tryz.prog kk .eql 5 (.int .u8 (c0 : Int)) (.int .u8 48) = some (.bool Z) := fun kk => by rw [← hZ]; exact JH
  have eG : ∀ kk, Jn Tryz.prog kk .gtr 3 (.int .i64 (i : Int)) (.int .i64 1) = some (.bool G) := fun kk => by rw [← hG]; exact JO
  refine Ks_ (Ks_ ?_)
  refine Km_ (fun fr st' => Fs gl [(0, .str s), (5, .int .i64 (n : Int)), (6, .int .i64 (i : Int)), (59, .bool (((P || Q) || !E) || (Z && G)))] fr ∧ st = st') ?_ ?_
  ·as_aux_lemma =>
   intro K4 gm4 go4
   refine Ka_ (gs := [none, none, none, some (some 39, false), some (some 39, false), some (some 39, false), some (some 39, false), none, none, some (some 45, false), some (some 45, false), some (some 45, false), some (some 45, false), none, none, some (some 51, false), some (some 51, false), some (some 51, false), some (some 51, false), some (some 55, true), some (some 55, true), some (some 51, false), none]) fun K1 gK => ?_
   refine OkG.cutK 9 (fun fr st' => Fs gl [(0, .str s), (5, .int .i64 (n : Int)), (6, .int .i64 (i : Int)), (45, .bool (P || Q))] fr ∧ st = st') (by kernel_rfl) ?_ ?_
   ·as_aux_lemma =>
    intro Kc gKc
    simp only [List.take]
    cases P with
    | true =>
     simp (disch := omega) [hF, eP]
     exact gKc _ _ ⟨by simp [Fs, hF], rfl⟩
    | false =>
     simp (disch := omega) [hF, Jb, eP, eQ]
     exact gKc _ _ ⟨by simp [Fs, hF], rfl⟩
   ·as_aux_lemma =>
    clear hF
    rintro fr st' ⟨hF, rfl⟩
    simp only [Fs] at hF
    simp only [List.drop]
    obtain ⟨X, hX⟩ : ∃ b, (P || Q) = b := ⟨_, rfl⟩
    rw [hX] at hF
    have hXi : X = false → i < s.n := fun h => by
     rw [h] at hX
     simp only [Bool.or_eq_false_iff] at hX
     rw [hX.2] at hQ
     have := of_decide_eq_false hQ
     omega
    refine OkG.cutK 6 (fun fr st' => Fs gl [(0, .str s), (5, .int .i64 (n : Int)), (6, .int .i64 (i : Int)), (51, .bool (X || !E))] fr ∧ st = st') (by kernel_rfl) ?_ ?_
    ·as_aux_lemma =>
     intro Kc gKc
     simp only [List.take]
     cases X with
     | true =>
      simp (disch := omega) [hF]
      exact gKc _ _ ⟨by simp [Fs, hF], rfl⟩
     | false =>
      have hix := hix (hXi rfl)
      simp (disch := omega) [hF, eE, hix]
      exact gKc _ _ ⟨by simp [Fs, hF], rfl⟩
    ·as_aux_lemma =>
     clear hF
     rintro fr st' ⟨hF, rfl⟩
     simp only [Fs] at hF
     simp only [List.drop]
     obtain ⟨Y, hY⟩ : ∃ b, (X || !E) = b := ⟨_, rfl⟩
     rw [hY] at hF
     cases Y with
     | true =>
      simp (disch := omega) [hF]
      refine gK _ _ ?_
      exact gm4 _ _ ⟨by simp [Fs, hF, hX, hY],  rfl⟩
     | false =>
      have hix0 := hix0 (by have := hXi (by cases X with | true => simp at hY | false => rfl); omega)
      cases Z with
      | true =>
       simp (disch := omega) [hF, eZ, eG, hix0]
       refine gK _ _ ?_
       exact gm4 _ _ ⟨by simp [Fs, hF, hX, hY],  rfl⟩
      | false =>
       simp (disch := omega) [hF, eZ, hix0]
       refine gK _ _ ?_
       exact gm4 _ _ ⟨by simp [Fs, hF, hX, hY],  rfl⟩
  ·as_aux_lemma =>
   clear hF
   rintro fr st' ⟨hF, rfl⟩
   simp only [Fs] at hF
   obtain ⟨B, hB⟩ : ∃ b, (((P || Q) || !E) || (Z && G)) = b := ⟨_, rfl⟩
   rw [hB] at hF
   cases B with
   | true =>
    refine Kt_ (by simp (disch := omega) [hF]) (Ks_ (Ka_ (gs := [none, none, none]) fun K1 gK => ?_))
    simp (disch := omega) []
    refine gK _ _ (Kq_ (gr _ _ ?_))
    simp [JC, Tryz.f57, hF]
    refine hR _ _ ?_
    refine ⟨⟨0, S.ofList [], false, rfl, by omega, Nat.zero_le _, (fun h => by cases h), fun _ => hn.no he ?_⟩, .refl _⟩
    rw [← hP, ← hQ, ← hE, ← hZ, ← hG] at hB
    simp only [Bool.or_eq_true, Bool.and_eq_true, decide_eq_true_eq, Bool.not_eq_true', decide_eq_false_iff_not] at hB
    rw [hc, hc0]
    rcases hB with ((h | h) | h) | h
    ·exact .inl h
    ·exact .inr (.inl h)
    ·exact .inr (.inr (.inl h))
    ·exact .inr (.inr (.inr h))
   | false =>
    refine Kf_ (by simp (disch := omega) [hF]) ?_
    have hz : i ≠ 0 ∧ i < s.n ∧ c = 58 ∧ (c0 = 48 → i ≤ 1) := by
     rw [← hP, ← hQ, ← hE, ← hZ, ← hG] at hB
     simp only [Bool.or_eq_false_iff, Bool.and_eq_false_imp, decide_eq_true_eq, decide_eq_false_iff_not, Bool.not_eq_false'] at hB
     obtain ⟨⟨⟨b1, b2⟩, b3⟩, b4⟩ := hB
     exact ⟨b1, by omega, b3, fun h => by have := b4 h; omega⟩
    obtain ⟨z1, z2, z3, z4⟩ := hz
    have hnum := hn.yes hi z1 z2 (by rw [hc]; exact z3) (by rw [hc0]; exact z4)
    have v2 := Jbe (k := .i64) (lo := i + 1) Tryz.underlying9 (s := s) (by omega)
    rw [show ((i + 1 : Nat) : Int) = (i : Int) + 1 by omega] at v2
    refine Kk_ (Ks_ (Kh_ (b := [0, 0, 0, 4, 14, 1, 63, 127]) (gs := [none, none, none, none, none, none, none, none]) fun K1 gK => ?_))
    simp (disch := omega) [hF, v2]
    refine gK _ _ (Kq_ (gr _ _ ?_))
    simp [JC, Tryz.f57, hF]
    refine hR _ _ ?_
    exact ⟨⟨n, s.cut (i + 1) s.n, true, rfl, hnum.1, by rw [JeO]; omega, fun _ => hnum, fun h => by cases h⟩, Jc3 _ _⟩
set_option maxRecDepth 100000 in
omit [NZ] in
theorem JiB (gl : Gl) (st : St) (s : S) (hs : s.n ≤ 1000000000) :
  Says Tryz.prog gl 56 [.str s] st (fun v st' => JoQ s v ∧ Keep st st') := by
 refine JS (NY.no _ rfl rfl rfl _ _) Tryz.func56 rfl (by kernel_rfl) fun R hR K gr gn => ?_
 generalize hfr : Jx gl [.str s] = fr
 have hF : Fs gl [(0, .str s)] fr := by subst hfr; simp [Fs]
 simp only [Fs] at hF
 clear hfr
 obtain ⟨v, s1, hc, ⟨n, r, ok, rfl, hn6, hrn, hy, hno⟩, hk1⟩ := Says.use (JkF gl st s hs)
 obtain ⟨G, hG⟩ : ∃ b, decide (r.n < n) = b := ⟨_, rfl⟩
 have eG : ∀ kk, Jn Tryz.prog kk .gtr 3 (.int .i64 (n : Int)) (.int .i64 (r.n : Int)) = some (.bool G) := fun kk => by rw [← hG]; exact J8
 refine Ks_ (Ka_ (gs := [none, none, none]) fun K1 gK => ?_)
 simp (disch := omega) []
 refine gK _ _ (Ks_ (Ka_ (gs := [none, none, none, none, none, none, none, none, none]) fun K1 gK => ?_))
 simp (disch := omega) [hF, hc]
 refine gK _ _ ?_
 cases ok with
 | true =>
  have hn := hy rfl
  refine Ks_ (Ks_ (Ka_ (gs := [none, none, none, some (some 16, false), some (some 16, false), some (some 16, false), some (some 16, false), none]) fun K1 gK => ?_))
  simp (disch := omega) [Jb, eG]
  refine gK _ _ ?_
  cases G with
  | true =>
   refine Kt_ (by simp (disch := omega) []) (Ks_ (Ka_ (gs := [none, none, none]) fun K1 gK => ?_))
   simp (disch := omega) []
   refine gK _ _ (Kq_ (gr _ _ ?_))
   simp [JC, Tryz.f56, hF]
   refine hR _ _ ?_
   exact ⟨⟨_, _, false, rfl, Nat.zero_le _, (fun h => by cases h), fun _ => JgB hn (by rw [S.len]; exact of_decide_eq_true hG)⟩, hk1⟩
  | false =>
   refine Kf_ (by simp (disch := omega) []) ?_
   have hG := of_decide_eq_false hG
   have v1 := JeN (k' := .i64) (hi := n) Tryz.underlying9 (s := r) (by omega)
   have v2 := Jbe (k := .i64) (lo := n) Tryz.underlying9 (s := r) (by omega)
   have c2 := Jbf r (i := n) (by omega)
   have c1 : (r.cut 0 n).toList = r.toList.take n := by
    rw [S.toList_cut _ (by omega) (by omega)]; simp
   have cn := Jgd r 0 n
   refine Kk_ (Ks_ (Kh_ (b := [0, 0, 3, 0, 0, 24, 7, 127, 255]) (gs := [none, none, none, none, none, none, none, none, none]) fun K1 gK => ?_))
   simp (disch := omega) [v1, v2]
   refine gK _ _ (Kq_ (gr _ _ ?_))
   simp [JC, Tryz.f56, hF]
   refine hR _ _ ?_
   exact ⟨⟨r.cut 0 n, r.cut n r.n, true, rfl, by rw [JeO]; omega, fun _ => ⟨by rw [cn]; exact hn.1, by rw [JaN, cn, c1, c2, hn.2, Nat.sub_zero]; simp⟩, fun h => by cases h⟩, hk1.trans (Jc3 _ _)⟩
 | false =>
  refine Ks_ (Ks_ (Ka_ (gs := [none, none, none, some (some 16, false), some (some 16, false), some (some 16, false), some (some 16, false), none]) fun K1 gK => ?_))
  simp (disch := omega) []
  refine gK _ _ (Kt_ (by simp (disch := omega) []) (Ks_ (Ka_ (gs := [none, none, none]) fun K1 gK => ?_)))
  simp (disch := omega) []
  refine gK _ _ (Kq_ (gr _ _ ?_))
  simp [JC, Tryz.f56, hF]
  refine hR _ _ ?_
  exact ⟨⟨_, _, false, rfl, Nat.zero_le _, (fun h => by cases h), fun _ => JgA (hno rfl)⟩, hk1⟩
end Go.Vm
namespace Go.Vm
open Go Go.Proofs Go.Pa
attribute [local simp] OkP QH OkS Qi OkG Qh Qp OkD JY Qr JI Jm Jq vop Js JB ev evs toV Jl Fr.dsTo Fr.glTo Fr.toNone Ji Jj Jk Qk QL Jd JD Jv V.undef JW JM J7 JX J3 J9 J8 Qa JH J4 J5 JZ JO Qb Jt Ju Jw Jz JE Jr JL JN JK Qq
structure RNodeR (s : S) (st : St) (v : V) (st' : St) (cs : List V) (t : Nt) (r : S) (ok : Bool) : Prop where
 v : v = .tup [.agg cs, .str r, .bool ok]
 f : Fresh st st' cs t
 l : r.n ≤ s.n
 y : ok = true → t.okN ∧ s.toList = shw t ++ r.toList
 n : ok = false → JcV s.toList
variable [Memo] [NY] [NZ]
def Jms [Memo] (gl : Gl) (k : Nat) : Prop := ∀ (st : St) (s : S), s.n ≤ k → Says Tryz.prog gl 33 [.str s] st fun v st' => (∃ cs t r ok, RNodeR s st v st' cs t r ok) ∧ Keep st st'
set_option maxHeartbeats 8000000 in
set_option maxRecDepth 100000 in
omit [NZ] in
theorem JjL (gl : Gl) (k : Nat) (hk9 : k ≤ 1000000000) (ih : ∀ k', k' < k → Jms gl k') (st : St) (s : S) (hs : s.n ≤ k) :
  Says Tryz.prog gl 33 [.str s] st (fun v st' => (∃ cs t r ok, RNodeR s st v st' cs t r ok) ∧ Keep st st') := by
 refine JS (NY.no _ rfl rfl rfl _ _) Tryz.func33 rfl (by kernel_rfl) fun R hR K gr gn => ?_
 generalize hfr : Jx gl [.str s] = fr
 have hF : Fs gl [(0, .str s)] fr := by subst hfr; simp [Fs]
 simp only [Fs] at hF
 clear hfr
 have kq := JJ st [.int .u8 0, .str ⟨0, 0⟩, .nils, .nils] 25
 have hb := Qc st [.int .u8 0, .str ⟨0, 0⟩, .nils, .nils] 25
 have bq := QF st [.int .u8 0, .str ⟨0, 0⟩, .nils, .nils] 25
 have cq := QO st [.int .u8 0, .str ⟨0, 0⟩, .nils, .nils] 25
 generalize Q4 st [.int .u8 0, .str ⟨0, 0⟩, .nils, .nils] 25 = q at kq hb bq cq
 have hsm := Jaj s
 have hz : ∀ {s' : St}, Keep q s' → ∃ s3, Q0 Tryz.prog s' 25 (.ptr st.ctr 0) (.agg [.int .u8 0, .str ⟨0, 0⟩, .nils, .nils]) = some s3 ∧ Qe Tryz.prog s3 25 (.ptr st.ctr 0) = some (.agg [.int .u8 0, .str ⟨0, 0⟩, .nils, .nils]) ∧ Fresh st s3 [.int .u8 0, .str ⟨0, 0⟩, .nils, .nils] noN ∧ Keep st s3 := fun {s'} k => by
  obtain ⟨s3, w3, b3, o3⟩ := Jah ((k.box st.ctr (by omega)).trans bq) rfl (cs := [.int .u8 0, .str ⟨0, 0⟩, .nils, .nils]) rfl rfl
  exact ⟨s3, w3, QZ b3 rfl, Fresh.leaf (k := 0) (by omega) ⟨0, 0⟩, ⟨by have := k.ctr; have := o3.ctr; omega, fun j hj => by rw [o3.box j (by omega), k.box j (by omega), kq.box j hj]⟩⟩
 refine Ks_ (Ka_ (gs := [none, none, none]) fun K1 gK => ?_)
 simp (disch := omega) [JG, Ja, Jh, Jf, Jg, hb]
 refine gK _ _ (Ks_ (Ks_ (Ka_ (gs := [none, none]) fun K1 gK => ?_)))
 simp (disch := omega) [hF, hsm]
 refine gK _ _ ?_
 by_cases h0 : s.n = 0
 ·
  refine Kt_ (by simp (disch := omega) [h0]) ?_
  obtain ⟨s3, w3, l3, hfr, hk3⟩ := hz (.refl q)
  refine Ks_ (Ka_ (gs := [none, none, none, none]) fun K1 gK => ?_)
  simp (disch := omega) [Je, Jc, h0, w3]
  refine gK _ _ (Kq_ (gr _ _ ?_))
  simp [JC, Tryz.f33, hF, l3]
  refine hR _ _ ?_
  exact ⟨⟨_, _, _, false, rfl, hfr, Nat.zero_le _, (fun h => by cases h), fun _ => by rw [List.eq_nil_of_length_eq_zero (l := s.toList) (by rw [S.len]; exact h0)]; exact JiX⟩, hk3⟩
 ·
  refine Kf_ (by simp (disch := omega) [h0]) ?_
  obtain ⟨c, hc⟩ : ∃ c, s.at 0 = c := ⟨_, rfl⟩
  have hc256 : c < 256 := hc ▸ S.at_lt s 0
  have hix : Jao Tryz.prog 9 (.str s) (.int .i64 0) = some (.int .u8 (c : Int)) := by rw [← hc]; exact Qw (i := 0) Tryz.underlying9 (by omega)
  have hsl := JcG (s := s) (by omega)
  have hht := Jhb h0
  have htn := JeO s 1
  rw [hc] at hht
  generalize s.cut 1 s.n = tl at hsl hht htn
  obtain ⟨F, hF1⟩ : ∃ b, decide (c = 102) = b := ⟨_, rfl⟩
  obtain ⟨L, hL1⟩ : ∃ b, decide (c = 108) = b := ⟨_, rfl⟩
  obtain ⟨D, hD1⟩ : ∃ b, decide (c = 100) = b := ⟨_, rfl⟩
  have eF : ∀ kk, Jn Tryz.prog kk .eql 5 (.int .u8 (c : Int)) (.int .u8 102) = some (.bool F) := fun kk => by rw [← hF1]; exact JH
  have eL : ∀ kk, Jn Tryz.prog kk .eql 5 (.int .u8 (c : Int)) (.int .u8 108) = some (.bool L) := fun kk => by rw [← hL1]; exact JH
  have eD : ∀ kk, Jn Tryz.prog kk .neq 5 (.int .u8 (c : Int)) (.int .u8 100) = some (.bool (!D)) := fun kk => by rw [← hD1]; exact J4
  refine Kk_ (Ks_ (Ks_ ?_))
  refine Km_ (fun fr st' => Fs gl [(0, .str s), (2, .ptr st.ctr 0), (29, .bool (F || L))] fr ∧ q = st') ?_ ?_
  ·as_aux_lemma =>
   intro K1 gm1 go1
   cases F with
   | true =>
    refine Ka_ (gs := [none, none, none, none, some (some 25, false), some (some 25, false), some (some 25, false), none]) fun K1 gK => ?_
    simp (disch := omega) [hF, h0, hix, eF]
    refine gK _ _ ?_
    exact gm1 _ _ ⟨by simp [Fs, hF], rfl⟩
   | false =>
    refine Ka_ (gs := [none, none, none, none, some (some 25, false), some (some 25, false), some (some 25, false), none]) fun K1 gK => ?_
    simp (disch := omega) [hF, h0, hix, eF, eL]
    refine gK _ _ ?_
    exact gm1 _ _ ⟨by simp [Fs, hF], rfl⟩
  ·as_aux_lemma =>
   clear hF
   rintro fr st' ⟨hF, rfl⟩
   simp only [Fs] at hF
   obtain ⟨X, hX⟩ : ∃ b, (F || L) = b := ⟨_, rfl⟩
   rw [hX] at hF
   cases X with
   | true =>
    refine Kt_ (by simp (disch := omega) [hF]) ?_
    obtain ⟨v, s1, hc1, ⟨z, r, ok, rfl, hrn, hy, hno⟩, hk1⟩ := Says.use (JiB gl q tl (by omega))
    have kw := JJ s1 [.int .u8 0, .str ⟨0, 0⟩, .nils, .nils] 25
    have ew := Qc s1 [.int .u8 0, .str ⟨0, 0⟩, .nils, .nils] 25
    have bw := QF s1 [.int .u8 0, .str ⟨0, 0⟩, .nils, .nils] 25
    have cw := QO s1 [.int .u8 0, .str ⟨0, 0⟩, .nils, .nils] 25
    generalize Q4 s1 [.int .u8 0, .str ⟨0, 0⟩, .nils, .nils] 25 = w at kw ew bw cw
    obtain ⟨w2, hw, bw2, ow⟩ := Jah bw rfl (cs := [.int .u8 1, .str z, .nils, .nils]) rfl rfl
    have c1 := hk1.ctr
    have cw2 := ow.ctr
    have bz := Jmo z
    refine Ks_ (Ka_ (gs := [none, none, none, none, none, none, none, none, none, none]) fun K1 gK => ?_)
    simp (disch := omega) [hF, hsl, hc1]
    refine gK _ _ (Ks_ ?_)
    refine Kn_ (fun fr => Fs gl [(0, .str s), (2, .ptr st.ctr 0), (5, .str z), (6, .str r), (7, .bool ok)] fr) (by simp [Fs, hF]) ?_
    clear hF
    rintro fr hF
    simp only [Fs] at hF
    refine Ka_ (gs := [none, none, none, none]) fun K1 gK => ?_
    simp (disch := omega) [hF, JG, Ja, Jh, Jf, Jg, Jc, ew, hw, bz]
    refine gK _ _ (Ks_ (Ks_ ?_))
    refine Kn_ (fun fr => Fs gl [(0, .str s), (2, .ptr st.ctr 0), (6, .str r), (7, .bool ok), (8, .ptr s1.ctr 0)] fr) (by simp [Fs, hF]) ?_
    clear hF
    rintro fr hF
    simp only [Fs] at hF
    refine Ka_ (gs := [none, none, none]) fun K1 gK => ?_
    simp (disch := omega) [hF, hix, eL]
    refine gK _ _ ?_
    cases L with
    | true =>
     refine Kt_ (by simp (disch := omega) []) ?_
     have hc108 := of_decide_eq_true hL1
     have hw3 := QR (P := Tryz.prog) (t := 5) (off := 0) (v := .int .u8 3) z5 bw2 (by simp) rfl
     obtain ⟨w3, ew3, cw3, bw3, ow3⟩ := JoO w2 s1.ctr (.cells (([.int .u8 1, .str z, .nils, .nils] : List V).set 0 (.int .u8 3)) 25 true (some 0))
     rw [ew3] at hw3
     have l3 := QZ bw3 rfl
     simp only [List.set_cons_zero] at l3
     have b2 : w3.box.get st.ctr = _ := (ow3 st.ctr (by omega)).trans ((ow.box st.ctr (by omega)).trans ((kw.box st.ctr (by omega)).trans ((hk1.box st.ctr (by omega)).trans bq)))
     obtain ⟨s4, w4, b4, o4⟩ := Jah b2 rfl (cs := [.int .u8 3, .str z, .nils, .nils]) rfl rfl
     have l4 := QZ b4 rfl
     refine Ka_ (gs := [none, none]) fun K1 gK => ?_
     simp (disch := omega) [hF, gN0, hw3]
     refine gK _ _ (Ks_ (Ka_ (gs := [none, none, none, none, none, none]) fun K1 gK => ?_))
     simp (disch := omega) [hF, l3, w4]
     refine gK _ _ (Kq_ (gr _ _ ?_))
     simp [JC, Tryz.f33, hF, l4]
     refine hR _ _ ?_
     refine ⟨⟨_, .mk 3 z [] [], r, ok, rfl, Fresh.leaf (k := 3) (by omega) z, by omega, fun h => ?_, fun h => ?_⟩, ⟨by have := o4.ctr; omega, fun j hj => by rw [o4.box j (by omega), ow3 j (by omega), ow.box j (by omega), kw.box j (by omega), hk1.box j (by omega), kq.box j hj]⟩⟩
     ·obtain ⟨a2, a3⟩ := hy h
      exact ⟨.leaf 3 z (.inr rfl) a2, by rw [hht, hc108, a3, Jaw (.inr rfl)]; rfl⟩
     ·rw [hht, hc108]; exact Jdn (k := 3) (.inr rfl) (hno h)
    | false =>
     refine Kf_ (by simp (disch := omega) []) ?_
     have hc102 : c = 102 := by rw [Bool.or_false] at hX; rw [hX] at hF1; exact of_decide_eq_true hF1
     have l3 := QZ bw2 rfl
     have b2 : w2.box.get st.ctr = _ := (ow.box st.ctr (by omega)).trans ((kw.box st.ctr (by omega)).trans ((hk1.box st.ctr (by omega)).trans bq))
     obtain ⟨s4, w4, b4, o4⟩ := Jah b2 rfl (cs := [.int .u8 1, .str z, .nils, .nils]) rfl rfl
     have l4 := QZ b4 rfl
     refine Kk_ (Ks_ (Ka_ (gs := [none, none, none, none, none, none]) fun K1 gK => ?_))
     simp (disch := omega) [hF, l3, w4]
     refine gK _ _ (Kq_ (gr _ _ ?_))
     simp [JC, Tryz.f33, hF, l4]
     refine hR _ _ ?_
     refine ⟨⟨_, .mk 1 z [] [], r, ok, rfl, Fresh.leaf (k := 1) (by omega) z, by omega, fun h => ?_, fun h => ?_⟩, ⟨by have := o4.ctr; omega, fun j hj => by rw [o4.box j (by omega), ow.box j (by omega), kw.box j (by omega), hk1.box j (by omega), kq.box j hj]⟩⟩
     ·obtain ⟨a2, a3⟩ := hy h
      exact ⟨.leaf 1 z (.inl rfl) a2, by rw [hht, hc102, a3, Jaw (.inl rfl)]; rfl⟩
     ·rw [hht, hc102]; exact Jdn (k := 1) (.inl rfl) (hno h)
   | false =>
    refine Kf_ (by simp (disch := omega) [hF]) ?_
    have hn102 : c ≠ 102 := by simp only [Bool.or_eq_false_iff] at hX; rw [hX.1] at hF1; exact of_decide_eq_false hF1
    have hn108 : c ≠ 108 := by simp only [Bool.or_eq_false_iff] at hX; rw [hX.2] at hL1; exact of_decide_eq_false hL1
    refine Kk_ (Ks_ (Ks_ (Ka_ (gs := [none, none, none]) fun K1 gK => ?_)))
    simp (disch := omega) [hF, hix, eD]
    refine gK _ _ ?_
    cases D with
    | true =>
     refine Kf_ (by simp (disch := omega) []) ?_
     have hc100 := of_decide_eq_true hD1
     rw [hc100] at hht
     have hht : s.toList = 100 :: tl.toList := hht
     obtain ⟨v, s1, hc1, ⟨n, r, ok, rfl, hn6, hrn, hy, hno⟩, hk1⟩ := Says.use (JkF gl q tl (by omega))
     have c1 := hk1.ctr
     have kw := JJ s1 [.int .u8 0, .str ⟨0, 0⟩, .nils, .nils] 25
     have ew := Qc s1 [.int .u8 0, .str ⟨0, 0⟩, .nils, .nils] 25
     have bw := QF s1 [.int .u8 0, .str ⟨0, 0⟩, .nils, .nils] 25
     have cw := QO s1 [.int .u8 0, .str ⟨0, 0⟩, .nils, .nils] 25
     generalize Q4 s1 [.int .u8 0, .str ⟨0, 0⟩, .nils, .nils] 25 = w at kw ew bw cw
     obtain ⟨w2, hw, bw2, ow⟩ := Jah bw rfl (cs := [.int .u8 2, .str ⟨0, 0⟩, .nils, .nils]) rfl rfl
     have cw2 := ow.ctr
     have hm0 : NMk s1 w2 s1.ctr .nils .nils [] [] [] := ⟨bw2, by omega, Nat.le_refl _, .nils, .nils, fun h => h, fun h => h, fun _ h => h.elim, rfl, fun _ => False, fun _ h => h.elim, fun i h => by simp at h⟩
     have kw2 : Keep s1 w2 := ⟨by omega, fun j hj => by rw [ow.box j (by omega), kw.box j hj]⟩
     have hD0 : ok = true → DirTo s.toList n [] [] r.toList := fun h => by
      have a2 := hy h
      exact ⟨by rw [hht, a2.2]; simp [Jak], rfl, hn6, fun _ h => (by cases h), fun _ h => (by cases h)⟩
     have hD2 : ok = false → JcV s.toList := fun h => by rw [hht]; exact JiY (hno h)
     refine Kk_ (Ks_ (Ka_ (gs := [none, none, none, none, none, none, none, none, none, none]) fun K1 gK => ?_))
     simp (disch := omega) [hF, hsl, hc1]
     refine gK _ _ (Ks_ ?_)
     refine Kn_ (fun fr => Fs gl [(2, .ptr st.ctr 0), (9, .int .i64 (n : Int)), (10, .str r), (11, .bool ok)] fr) (by simp [Fs, hF]) ?_
     clear hF
     rintro fr hF
     simp only [Fs] at hF
     refine Ka_ (gs := [none, none, none]) fun K1 gK => ?_
     simp (disch := omega) [JG, Ja, Jh, Jf, Jg, Jc, JhI, ew, hw]
     refine gK _ _ (Ks_ (Ks_ (Ka_ (gs := [none]) fun K1 gK => ?_)))
     simp (disch := omega) []
     refine gK _ _ ?_
     refine Kl_ (n) (fun i fr st' => ∃ (nv kv : V) (css : List (List V)) (names : List S) (kids : List Nt) (r : S) (ok : Bool), Fs gl [(2, .ptr st.ctr 0), (9, .int .i64 (n : Int)), (10, .str r), (11, .bool ok), (12, .ptr s1.ctr 0), (13, .int .i64 (i : Int))] fr ∧ i ≤ n ∧ names.length = i ∧ kids.length = i ∧ NMk s1 st' s1.ctr nv kv names css kids ∧ Keep s1 st' ∧ r.n ≤ tl.n ∧ (ok = true → DirTo s.toList n names kids r.toList) ∧ (ok = false → JcV s.toList)) (0) (fun fr st' => ∃ (nv kv : V) (names : List S) (kids : List Nt) (r : S) (ok : Bool), Fs gl [(2, .ptr st.ctr 0), (10, .str r), (11, .bool ok), (12, .ptr s1.ctr 0)] fr ∧ (∃ css, NMk s1 st' s1.ctr nv kv names css kids) ∧ Keep s1 st' ∧ r.n ≤ tl.n ∧ (ok = true → names.length = n ∧ DirTo s.toList n names kids r.toList) ∧ (ok = false → JcV s.toList)) ?_ ?_ ?_ ?_
     ·exact ⟨.nils, .nils, [], [], [], r, ok, by simp [Fs, hF], Nat.zero_le _, rfl, rfl, hm0, kw2, hrn, hD0, hD2⟩
     ·rintro i fr st' ⟨nv, kv, css, names, kids, r, ok, _, hi, hnl, hkl, hm, hkk, hrl, hd0, hd1⟩
      omega
     ·as_aux_lemma =>
      clear hF
      rintro i fr st' ⟨nv, kv, css, names, kids, r, ok, hF, hi, hnl, hkl, hm, hkk, hrl, hd0, hd1⟩ K2 gk2 gx2 go2
      simp only [Fs] at hF
      have gr2 := fun fr st h => go2 AE.ret fr st trivial (gr fr st h)
      obtain ⟨B, hB⟩ : ∃ b, decide (i < n) = b := ⟨_, rfl⟩
      have eB : ∀ kk, Jn Tryz.prog kk .lss 3 (.int .i64 (i : Int)) (.int .i64 (n : Int)) = some (.bool B) := fun kk => by rw [← hB]; exact J3
      cases B with
      | true =>
       have hlt := of_decide_eq_true hB
       refine Ks_ (Ks_ (Ka_ (gs := [none, none, none, none, some (some 61, true), none]) fun K1 gK => ?_))
       simp (disch := omega) [hF, eB]
       refine gK _ _ ?_
       cases ok with
       | true =>
        refine Kt_ (by simp (disch := omega) []) ?_
        have hdir := hd0 rfl
        have cst := hkk.ctr
        obtain ⟨v, s2, hc2, ⟨z, r1, ok1, rfl, hrn1, hz0, hz1⟩, hk2⟩ := Says.use (JiB gl st' r (by omega))
        have c2 := hk2.ctr
        refine Kk_ (Ks_ ?_)
        refine Kb_ fun K3 gn3 gx3 go3 => ?_
        have gr3 := fun fr st h => go3 AE.ret fr st trivial (gr2 fr st h)
        refine Ks_ (Ka_ (gs := [none, none, none, none, none, none, none, none, none]) fun K1 gK => ?_)
        simp (disch := omega) [hF, hc2]
        refine gK _ _ (Ks_ (Ks_ (Ka_ (gs := [none, none]) fun K1 gK => ?_)))
        simp (disch := omega) []
        refine gK _ _ ?_
        cases ok1 with
        | true =>
         refine Kf_ (by simp (disch := omega) []) ?_
         obtain ⟨hz9, hrz⟩ := hz0 rfl
         obtain ⟨v, s3, hc3, ⟨cs, t, r2, ok2, rfl, hfr, hrn2, ht0, ht1⟩, hk3⟩ := Says.use (ih tl.n (by omega) s2 r1 (by omega))
         have c3 := hk3.ctr
         have hcl := hfr.nr.len
         have hco := hfr.nr.ones
         have ky := JJ s3 [.int .u8 0, .str ⟨0, 0⟩, .nils, .nils] 25
         have ey := Qc s3 [.int .u8 0, .str ⟨0, 0⟩, .nils, .nils] 25
         have by' := QF s3 [.int .u8 0, .str ⟨0, 0⟩, .nils, .nils] 25
         have cy := QO s3 [.int .u8 0, .str ⟨0, 0⟩, .nils, .nils] 25
         generalize Q4 s3 [.int .u8 0, .str ⟨0, 0⟩, .nils, .nils] 25 = y at ky ey by' cy
         obtain ⟨y2, hy2, by2, oy⟩ := Jah by' rfl (cs := cs) hcl hco
         have cy2 := oy.ctr
         have ky2 : Keep s3 y2 := ⟨by omega, fun j hj => by rw [oy.box j (by omega), ky.box j hj]⟩
         have kall : Keep st' y2 := hk2.trans (hk3.trans ky2)
         have hmy := hm.out kall.ctr fun j _ h2 => kall.box j h2
         have bs := Jpy z
         have kx := JJ y2 [.str z] 9
         have ex := Qc y2 [.str z] 9
         have bx := QF y2 [.str z] 9
         have cx := QO y2 [.str z] 9
         generalize Q4 y2 [.str z] 9 = x at kx ex bx cx
         obtain ⟨nv', u1, u2, ha, hu, hm2, hcu, hlow2, hvn, hoth⟩ := hmy.name z (id := y2.ctr) (Nat.le_refl _) (q := x) (by omega) (by omega) (fun j h1 h2 => kx.box j h2) bx (by omega)
         have ln : Qe Tryz.prog y2 22 (.ptr s1.ctr 2) = some nv := Qd (off := 2) Jju JhC hmy.b rfl
         have hnlt := hm.lt
         have hvlt : ∀ {i}, vid nv i → i < st'.ctr := fun h => (hm.hn.vid_lt h).2
         have byu : u2.box.get s3.ctr = some (.cells cs 25 true (some 0)) := by
          rw [hoth s3.ctr (by omega) (by omega) (fun h => by have := hvlt h; omega), kx.box s3.ctr (by omega)]; exact by2
         have lt := QZ byu hcl
         have bs3 := Jot hcl hco
         have kp := JJ u2 cs 25
         have ep := Qc u2 cs 25
         have bp := QF u2 cs 25
         have cp := QO u2 cs 25
         generalize Q4 u2 cs 25 = p at kp ep bp cp
         obtain ⟨B, hB1, hB2⟩ := hfr
         have hBB : ∀ j, B j → p.box.get j = s3.box.get j := fun j hj => by
          have := hB2 j hj
          rw [kp.box j (by omega), hoth j (by omega) (by omega) (fun h => by have := hvlt h; omega), kx.box j (by omega), ky2.box j (by omega)]
         obtain ⟨kv', w1, w3, ha2, hu2, hm4, hcw, hlow4⟩ := hm2.kid' (id := u2.ctr) (Nat.le_refl _) (q := p) (by omega) (by omega) (fun j h1 h2 => kp.box j h2) bp (hB1.stab (by omega) hBB) (fun j hj => by have := hB2 j hj; omega) (fun j hj => by
          have h9 := hB2 j hj
          exact ⟨by omega, fun h => by have := (hm.hs.vid_lt h).2; omega, fun h => by
           rcases hvn j h with h | h
           ·have := hvlt h; omega
           ·omega⟩) (by omega)
         have lk : Qe Tryz.prog u2 23 (.ptr s1.ctr 3) = some kv := Qd (off := 3) JoI JnB hm2.b rfl
         have hkk4 : Keep s1 w3 := ⟨by omega, fun j hj => by rw [hlow4 j hj, kp.box j (by omega), hlow2 j hj, kx.box j (by omega), kall.box j (by omega), hkk.box j hj]⟩
         have g0 : ([V.agg cs, V.str r2, V.bool ok2] : List V)[0]? = some (V.agg cs) := rfl
         have g1 : ([V.str r2, V.bool ok2] : List V)[0]? = some (V.str r2) := rfl
         have g2 : ([V.bool ok2] : List V)[0]? = some (V.bool ok2) := rfl
         refine Kk_ (Ks_ ?_)
         refine Kn_ (fun fr => Fs gl [(2, .ptr st.ctr 0), (9, .int .i64 (n : Int)), (12, .ptr s1.ctr 0), (13, .int .i64 (i : Int)), (14, .str z), (15, .str r1)] fr) (by simp [Fs, hF]) ?_
         clear hF
         rintro fr hF
         simp only [Fs] at hF
         refine Ka_ (gs := [none, none, none, none, none, none, none, none, none, none]) fun K1 gK => ?_
         simp (disch := omega) [hF, JG, Ja, Jh, Jf, Jg, hc3, ey, hy2, g0, g1, g2]
         refine gK _ _ (Ks_ ?_)
         refine Kn_ (fun fr => Fs gl [(2, .ptr st.ctr 0), (9, .int .i64 (n : Int)), (12, .ptr s1.ctr 0), (13, .int .i64 (i : Int)), (14, .str z), (16, .bool ok2), (17, .ptr s3.ctr 0), (18, .str r2)] fr) (by simp [Fs, hF]) ?_
         clear hF
         rintro fr hF
         simp only [Fs] at hF
         refine Ka_ (gs := [none, none, none, none, none, none, none]) fun K1 gK => ?_
         simp (disch := omega) [hF, Jf, Jc, bs, ex, ha, hu, ln, gN2]
         refine gK _ _ (Ks_ ?_)
         refine Kn_ (fun fr => Fs gl [(2, .ptr st.ctr 0), (9, .int .i64 (n : Int)), (12, .ptr s1.ctr 0), (13, .int .i64 (i : Int)), (16, .bool ok2), (17, .ptr s3.ctr 0), (18, .str r2)] fr) (by simp [Fs, hF]) ?_
         clear hF
         rintro fr hF
         simp only [Fs] at hF
         refine Ka_ (gs := [none, none, none, none, none, none, none]) fun K1 gK => ?_
         simp (disch := omega) [hF, Jc, gN3, lt, bs3, ep, ha2, hu2, lk, hco]
         refine gK _ _ ?_
         refine Kn_ (fun fr => Fs gl [(2, .ptr st.ctr 0), (9, .int .i64 (n : Int)), (12, .ptr s1.ctr 0), (13, .int .i64 (i : Int)), (16, .bool ok2), (18, .str r2)] fr) (by simp [Fs, hF]) ?_
         clear hF
         rintro fr hF
         simp only [Fs] at hF
         refine Ka_ (gs := [none, none, none, none]) fun K1 gK => ?_
         simp (disch := omega) [hF]
         refine gK _ _ (gn3 _ _ (Ka_ (gs := [none, none, none]) fun K1 gK => ?_))
         simp (disch := omega) [hF]
         refine gK _ _ ?_
         refine gk2 (i + 1) _ _ (by omega) ⟨nv', kv', css ++ [cs], names ++ [z], kids ++ [t], r2, ok2, by simp [Fs, hF], by omega, (by simp; omega), (by simp; omega), hm4, hkk4, by omega, (fun h => by obtain ⟨a2, a3⟩ := ht0 h; exact hdir.step hz9 a2 hrz a3), (fun h => hdir.no_node (by omega) hrz (ht1 h))⟩
        | false =>
         refine Kt_ (by simp (disch := omega) []) ?_
         obtain ⟨s3, w3, l3, hfr, hk3⟩ := hz (hk1.trans (hkk.trans hk2))
         refine Ks_ (Ka_ (gs := [none, none, none, none]) fun K1 gK => ?_)
         simp (disch := omega) [hF, Je, Jc, w3]
         refine gK _ _ (Kq_ (gr3 _ _ ?_))
         simp [JC, Tryz.f33, hF, l3]
         refine hR _ _ ?_
         exact ⟨⟨_, _, _, false, rfl, hfr, Nat.zero_le _, (fun h => by cases h), fun _ => hdir.no_part (by omega) (hz1 rfl)⟩, hk3⟩
       | false =>
        refine Kf_ (by simp (disch := omega) []) ?_
        exact Kx_ (gx2 _ _ ⟨nv, kv, names, kids, r, false, by simp [Fs, hF], ⟨css, hm⟩, hkk, hrl, (fun h => by cases h), hd1⟩)
      | false =>
       have hge := of_decide_eq_false hB
       refine Ks_ (Ks_ (Ka_ (gs := [none, none, none, none, some (some 61, true), none]) fun K1 gK => ?_))
       simp (disch := omega) [hF, eB]
       refine gK _ _ (Kf_ (by simp (disch := omega) []) ?_)
       exact Kx_ (gx2 _ _ ⟨nv, kv, names, kids, r, ok, by simp [Fs, hF], ⟨css, hm⟩, hkk, hrl, (fun h => ⟨by omega, hd0 h⟩), hd1⟩)
     ·as_aux_lemma =>
      clear hF
      rintro fr st' ⟨nv, kv, names, kids, r, ok, hF, ⟨css, hm⟩, hkk, hrl, hd0, hd1⟩
      simp only [Fs] at hF
      have cst := hkk.ctr
      have lr := QZ hm.b rfl
      have b2 : st'.box.get st.ctr = _ := (hkk.box st.ctr (by omega)).trans ((hk1.box st.ctr (by omega)).trans bq)
      obtain ⟨s3, w3, b3, o3⟩ := Jah b2 rfl (cs := [.int .u8 2, .str ⟨0, 0⟩, nv, kv]) rfl (by simp only [List.all_cons, hm.hn.one, hm.hs.sv.one]; rfl)
      have l3 := QZ b3 rfl
      refine Ks_ (Ka_ (gs := [none, none, none, none, none, none]) fun K1 gK => ?_)
      simp (disch := omega) [hF, lr, w3]
      refine gK _ _ (Kq_ (gr _ _ ?_))
      simp [JC, Tryz.f33, hF, l3]
      refine hR _ _ ?_
      refine ⟨⟨_, _, r, ok, rfl, ((hm.fresh.stab o3.ctr fun j h1 h2 => o3.box j (by omega)).from (by omega)), by omega, fun h => ?_, hd1⟩, ⟨by have := o3.ctr; omega, fun j hj => by rw [o3.box j (by omega), hkk.box j (by omega), hk1.box j (by omega), kq.box j hj]⟩⟩
      obtain ⟨a2, a3⟩ := hd0 h
      exact a3.fin a2 _ rfl
    | false =>
     refine Kt_ (by simp (disch := omega) []) ?_
     have hn100 : c ≠ 100 := of_decide_eq_false hD1
     obtain ⟨s3, w3, l3, hfr, hk3⟩ := hz (.refl q)
     refine Ks_ (Ka_ (gs := [none, none, none, none]) fun K1 gK => ?_)
     simp (disch := omega) [hF, Je, Jc, w3]
     refine gK _ _ (Kq_ (gr _ _ ?_))
     simp [JC, Tryz.f33, hF, l3]
     refine hR _ _ ?_
     refine ⟨⟨_, _, _, false, rfl, hfr, Nat.zero_le _, (fun h => by cases h), fun _ => ?_⟩, hk3⟩
     rw [hht]
     exact Jhm (Jhc (b := 102) hc256 (by decide) hn102) (Jhc (b := 108) hc256 (by decide) hn108) (Jhc (b := 100) hc256 (by decide) hn100)
omit [NZ] in
theorem Jmt (gl : Gl) : ∀ k : Nat, k ≤ 1000000000 → Jms gl k := fun k => by
 induction k using Nat.strongRecOn with
 | ind k ih => exact fun hk st s hs => JjL gl k hk (fun k' h => ih k' h (by omega)) st s hs
end Go.Vm
namespace Go.Vm
open Go Go.Proofs Go.Pa
attribute [local simp] OkP QH OkS Qi OkG Qh Qp OkD JY Qr JI Jm Jq vop Js JB ev evs toV Jl Fr.dsTo Fr.glTo Fr.toNone Ji Jj Jk Qk QL Jd JD Jv V.undef JW JM J7 JX J3 J9 J8 Qa JH J4 J5 JZ JO Qb Jt Ju Jw Jz JE Jr JL JN JK Qq
variable [Memo] [NY] [NZ]
set_option maxHeartbeats 8000000 in
set_option maxRecDepth 100000 in
omit [NZ] in
theorem Jlf (gl : Gl) (st : St) (s : S) (hs : s.n ≤ 1000000000) (hfit : ∀ t : Nt, t.okN → s.toList = shw t → t.fit) :
  Says Tryz.prog gl 14 [.str s] st (fun v st' => (∃ cs t ok, ParseR s st v st' cs t ok) ∧ Keep st st') := by
 refine JS (NY.no _ rfl rfl rfl _ _) Tryz.func14 rfl (by kernel_rfl) fun R hR K gr gn => ?_
 generalize hfr : Jx gl [.str s] = fr
 have hF : Fs gl [(0, .str s)] fr := by subst hfr; simp [Fs]
 simp only [Fs] at hF
 clear hfr
 have kq := JJ st [.int .u8 0, .str ⟨0, 0⟩, .nils, .nils] 25
 have hb := Qc st [.int .u8 0, .str ⟨0, 0⟩, .nils, .nils] 25
 have bq := QF st [.int .u8 0, .str ⟨0, 0⟩, .nils, .nils] 25
 have cq := QO st [.int .u8 0, .str ⟨0, 0⟩, .nils, .nils] 25
 generalize Q4 st [.int .u8 0, .str ⟨0, 0⟩, .nils, .nils] 25 = q at kq hb bq cq
 obtain ⟨v, s1, hc1, ⟨cs, t, r, ok, rfl, hfr, hrn, ht0, ht1⟩, hk1⟩ := Says.use (Jmt gl s.n (by omega) q s (Nat.le_refl _))
 have cs1 := hk1.ctr
 have hcl := hfr.nr.len
 have hco := hfr.nr.ones
 have kw := JJ s1 [.int .u8 0, .str ⟨0, 0⟩, .nils, .nils] 25
 have ew := Qc s1 [.int .u8 0, .str ⟨0, 0⟩, .nils, .nils] 25
 have bw := QF s1 [.int .u8 0, .str ⟨0, 0⟩, .nils, .nils] 25
 have cw := QO s1 [.int .u8 0, .str ⟨0, 0⟩, .nils, .nils] 25
 generalize Q4 s1 [.int .u8 0, .str ⟨0, 0⟩, .nils, .nils] 25 = w at kw ew bw cw
 obtain ⟨w2, hw, bw2, ow⟩ := Jah bw rfl (cs := cs) hcl hco
 have cw2 := ow.ctr
 have hfr2 : Fresh q w2 cs t := hfr.stab (by omega) fun j h1 h2 => (ow.box j (by omega)).trans (kw.box j h2)
 have l5 := QZ bw2 hcl
 have hkk : Keep st w2 := ⟨by omega, fun j hj => by rw [ow.box j (by omega), kw.box j (by omega), hk1.box j (by omega), kq.box j hj]⟩
 have b2 : w2.box.get st.ctr = _ := (ow.box st.ctr (by omega)).trans ((kw.box st.ctr (by omega)).trans ((hk1.box st.ctr (by omega)).trans bq))
 have hsm := Jaj r
 have hz : ∀ {s' : St}, Keep w2 s' → (ok = false ∨ r.n ≠ 0 ∨ QA t = false) → ∃ s3, Q0 Tryz.prog s' 25 (.ptr st.ctr 0) (.agg [.int .u8 0, .str ⟨0, 0⟩, .nils, .nils]) = some s3 ∧ Qe Tryz.prog s3 25 (.ptr st.ctr 0) = some (.agg [.int .u8 0, .str ⟨0, 0⟩, .nils, .nils]) ∧ ParseR s st (.tup [.agg [.int .u8 0, .str ⟨0, 0⟩, .nils, .nils], .int .i64 4]) s3 [.int .u8 0, .str ⟨0, 0⟩, .nils, .nils] noN false ∧ Keep st s3 := fun {s'} k hbad => by
  obtain ⟨s3, w3, b3, o3⟩ := Jah ((k.box st.ctr (by omega)).trans b2) rfl (cs := [.int .u8 0, .str ⟨0, 0⟩, .nils, .nils]) rfl rfl
  refine ⟨s3, w3, QZ b3 rfl, ⟨rfl, Fresh.leaf (k := 0) (by omega) ⟨0, 0⟩, (fun h => by cases h), fun _ => ⟨rfl, fun t' hp => ?_⟩⟩, ⟨Nat.le_trans hkk.ctr (Nat.le_trans k.ctr o3.ctr), fun j hj => by rw [o3.box j (by omega), k.box j (by omega), hkk.box j hj]⟩⟩
  obtain ⟨p1, p2, p3⟩ := hp
  cases ok with
  | false => exact ht1 rfl t' [] p1 (by rw [p3]; simp)
  | true =>
   obtain ⟨a2, a3⟩ := ht0 rfl
   have heq : shw t' ++ [] = shw t ++ r.toList := by rw [List.append_nil, ← p3, a3]
   obtain ⟨c1, c2⟩ := Jep t' p1 t a2 _ _ heq
   rcases hbad with h | h | h
   ·cases h
   ·exact h (by rw [← S.len, ← c2]; rfl)
   ·exact absurd p2 (by rw [Jf7 t' t c1, h]; decide)
 obtain ⟨E, hE⟩ : ∃ b, decide (r.n = 0) = b := ⟨_, rfl⟩
 rw [hE] at hsm
 have g0 : ([V.agg cs, V.str r, V.bool ok] : List V)[0]? = some (V.agg cs) := rfl
 have g1 : ([V.str r, V.bool ok] : List V)[0]? = some (V.str r) := rfl
 have g2 : ([V.bool ok] : List V)[0]? = some (V.bool ok) := rfl
 refine Ks_ (Ka_ (gs := [none, none]) fun K1 gK => ?_)
 simp (disch := omega) [JG, Ja, Jh, Jf, Jg, hb]
 refine gK _ _ (Ks_ (Ka_ (gs := [none, none, none, none, none, none, none, none, none, none]) fun K1 gK => ?_))
 simp (disch := omega) [hF, JG, Ja, Jh, Jf, Jg, hc1, ew, hw, g0, g1, g2]
 refine gK _ _ (Ks_ (Ks_ ?_))
 refine Kn_ (fun fr => Fs gl [(2, .ptr st.ctr 0), (4, .ptr s1.ctr 0), (5, .str r), (6, .bool ok)] fr) (by simp [Fs, hF]) ?_
 clear hF
 rintro fr hF
 simp only [Fs] at hF
 cases ok with
 | true =>
  cases E with
  | true =>
   have hE := of_decide_eq_true hE
   obtain ⟨a2, a3⟩ := ht0 rfl
   have hrl : r.toList = [] := List.eq_nil_of_length_eq_zero (by rw [S.len]; exact hE)
   rw [hrl, List.append_nil] at a3
   have hfit := hfit t a2 a3
   obtain ⟨v, s4, hc4, rfl, hk4⟩ := Says.use (JfU gl t hfit w2 cs hfr2.nr)
   obtain ⟨WN, hWN⟩ : ∃ b, QA t = b := ⟨_, rfl⟩
   rw [hWN] at hc4
   cases WN with
   | true =>
    have l6 := QZ ((hk4.box s1.ctr (by omega)).trans bw2) hcl
    obtain ⟨s5, w5, b5, o5⟩ := Jah ((hk4.box st.ctr (by omega)).trans b2) rfl (cs := cs) hcl hco
    have l7 := QZ b5 hcl
    have c4 := hk4.ctr
    refine Ka_ (gs := [none, none, none, some (some 15, false), some (some 15, false), none, none, some (some 19, false), some (some 19, false), some (some 19, false), none]) fun K1 gK => ?_
    simp (disch := omega) [hF, hsm, l5, hc4]
    refine gK _ _ (Kf_ (by simp (disch := omega) []) (Kk_ (Ks_ (Ka_ (gs := [none, none, none]) fun K1 gK => ?_))))
    simp (disch := omega) [hF, l6, w5]
    refine gK _ _ (Kq_ (gr _ _ ?_))
    simp [JC, Tryz.f14, hF, l7]
    refine hR _ _ ?_
    exact ⟨⟨cs, t, true, rfl, (hfr2.stab (by have := o5.ctr; omega) fun j h1 h2 => (o5.box j (by omega)).trans (hk4.box j h2)).from (by omega), fun _ => ⟨a2, hWN, a3⟩, fun h => by cases h⟩, ⟨by have := o5.ctr; omega, fun j hj => by rw [o5.box j (by omega), hk4.box j (by omega), hkk.box j hj]⟩⟩
   | false =>
    obtain ⟨s3, w3, l3, hp, hk3⟩ := hz hk4 (.inr (.inr hWN))
    refine Ka_ (gs := [none, none, none, some (some 15, false), some (some 15, false), none, none, some (some 19, false), some (some 19, false), some (some 19, false), none]) fun K1 gK => ?_
    simp (disch := omega) [hF, hsm, l5, hc4]
    refine gK _ _ (Kt_ (by simp (disch := omega) []) (Ks_ (Ka_ (gs := [none, none, none]) fun K1 gK => ?_)))
    simp (disch := omega) [hF, Jc, Je, w3]
    refine gK _ _ (Kq_ (gr _ _ ?_))
    simp [JC, Tryz.f14, hF, l3]
    refine hR _ _ ?_
    exact ⟨⟨_, _, _, hp⟩, hk3⟩
  | false =>
   obtain ⟨s3, w3, l3, hp, hk3⟩ := hz (.refl _) (.inr (.inl (of_decide_eq_false hE)))
   refine Ka_ (gs := [none, none, none, some (some 15, false), some (some 15, false), none, none, some (some 19, false), some (some 19, false), some (some 19, false), none]) fun K1 gK => ?_
   simp (disch := omega) [hF, hsm]
   refine gK _ _ (Kt_ (by simp (disch := omega) []) (Ks_ (Ka_ (gs := [none, none, none]) fun K1 gK => ?_)))
   simp (disch := omega) [hF, Jc, Je, w3]
   refine gK _ _ (Kq_ (gr _ _ ?_))
   simp [JC, Tryz.f14, hF, l3]
   refine hR _ _ ?_
   exact ⟨⟨_, _, _, hp⟩, hk3⟩
 | false =>
  obtain ⟨s3, w3, l3, hp, hk3⟩ := hz (.refl _) (.inl rfl)
  refine Ka_ (gs := [none, none, none, some (some 15, false), some (some 15, false), none, none, some (some 19, false), some (some 19, false), some (some 19, false), none]) fun K1 gK => ?_
  simp (disch := omega) [hF]
  refine gK _ _ (Kt_ (by simp (disch := omega) []) (Ks_ (Ka_ (gs := [none, none, none]) fun K1 gK => ?_)))
  simp (disch := omega) [hF, Jc, Je, w3]
  refine gK _ _ (Kq_ (gr _ _ ?_))
  simp [JC, Tryz.f14, hF, l3]
  refine hR _ _ ?_
  exact ⟨⟨_, _, _, hp⟩, hk3⟩
end Go.Vm
