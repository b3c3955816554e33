/- Numbers as digits: strconv.Itoa. -/
import Derived.Test.YtphinjijaglokaaGreatDoorSzA
import Derived.Test.YtphinjijaglokaaGreatDoorSz4
import Derived.Test.YtphinjijaglokaaGreatDoorSzB
namespace Go.Vm
open Go Go.Proofs Go.Pa
attribute [local simp] OkG Qh Qp OkD JY Qr JI Jm Jq vop Js JB ev evs toV Jl Fr.dsTo Fr.glTo Fr.toNone Ji Jj Jk Qk QL Jd JD Jv V.undef JW JM J7 JX J3 J9 J8 Qa JH J4 J5 JZ JO Qb Jt Ju Jw Jz JE Jr JL JN JK Qq
def bitsN (n : Nat) : Nat := cond (decide (n = 0)) 0 (Nat.log2 n + 1)
set_option maxRecDepth 100000 in
theorem Jko {x : Nat} (h : x < 256) : Jao Tryz.prog 9 (.str (S.ofList [0, 1, 2, 2, 3, 3, 3, 3, 4, 4, 4, 4, 4, 4, 4, 4, 5, 5, 5, 5, 5, 5, 5, 5, 5, 5, 5, 5, 5, 5, 5, 5, 6, 6, 6, 6, 6, 6, 6, 6, 6, 6, 6, 6, 6, 6, 6, 6, 6, 6, 6, 6, 6, 6, 6, 6, 6, 6, 6, 6, 6, 6, 6, 6, 7, 7, 7, 7, 7, 7, 7, 7, 7, 7, 7, 7, 7, 7, 7, 7, 7, 7, 7, 7, 7, 7, 7, 7, 7, 7, 7, 7, 7, 7, 7, 7, 7, 7, 7, 7, 7, 7, 7, 7, 7, 7, 7, 7, 7, 7, 7, 7, 7, 7, 7, 7, 7, 7, 7, 7, 7, 7, 7, 7, 7, 7, 7, 7, 8, 8, 8, 8, 8, 8, 8, 8, 8, 8, 8, 8, 8, 8, 8, 8, 8, 8, 8, 8, 8, 8, 8, 8, 8, 8, 8, 8, 8, 8, 8, 8, 8, 8, 8, 8, 8, 8, 8, 8, 8, 8, 8, 8, 8, 8, 8, 8, 8, 8, 8, 8, 8, 8, 8, 8, 8, 8, 8, 8, 8, 8, 8, 8, 8, 8, 8, 8, 8, 8, 8, 8, 8, 8, 8, 8, 8, 8, 8, 8, 8, 8, 8, 8, 8, 8, 8, 8, 8, 8, 8, 8, 8, 8, 8, 8, 8, 8, 8, 8, 8, 8, 8, 8, 8, 8, 8, 8, 8, 8, 8, 8, 8, 8, 8, 8, 8, 8, 8, 8, 8, 8, 8, 8, 8, 8, 8, 8])) (.int .u8 (x : Int)) = some (.int .u8 ((bitsN x : Nat) : Int)) := by
 have hl : (S.ofList [0, 1, 2, 2, 3, 3, 3, 3, 4, 4, 4, 4, 4, 4, 4, 4, 5, 5, 5, 5, 5, 5, 5, 5, 5, 5, 5, 5, 5, 5, 5, 5, 6, 6, 6, 6, 6, 6, 6, 6, 6, 6, 6, 6, 6, 6, 6, 6, 6, 6, 6, 6, 6, 6, 6, 6, 6, 6, 6, 6, 6, 6, 6, 6, 7, 7, 7, 7, 7, 7, 7, 7, 7, 7, 7, 7, 7, 7, 7, 7, 7, 7, 7, 7, 7, 7, 7, 7, 7, 7, 7, 7, 7, 7, 7, 7, 7, 7, 7, 7, 7, 7, 7, 7, 7, 7, 7, 7, 7, 7, 7, 7, 7, 7, 7, 7, 7, 7, 7, 7, 7, 7, 7, 7, 7, 7, 7, 7, 8, 8, 8, 8, 8, 8, 8, 8, 8, 8, 8, 8, 8, 8, 8, 8, 8, 8, 8, 8, 8, 8, 8, 8, 8, 8, 8, 8, 8, 8, 8, 8, 8, 8, 8, 8, 8, 8, 8, 8, 8, 8, 8, 8, 8, 8, 8, 8, 8, 8, 8, 8, 8, 8, 8, 8, 8, 8, 8, 8, 8, 8, 8, 8, 8, 8, 8, 8, 8, 8, 8, 8, 8, 8, 8, 8, 8, 8, 8, 8, 8, 8, 8, 8, 8, 8, 8, 8, 8, 8, 8, 8, 8, 8, 8, 8, 8, 8, 8, 8, 8, 8, 8, 8, 8, 8, 8, 8, 8, 8, 8, 8, 8, 8, 8, 8, 8, 8, 8, 8, 8, 8, 8, 8, 8, 8, 8, 8]).n = 256 := rfl
 rw [Qw Tryz.underlying9 (by rw [hl]; exact h)]
 have h2 : ((List.range 256).all fun x => Nat.beq ((S.ofList [0, 1, 2, 2, 3, 3, 3, 3, 4, 4, 4, 4, 4, 4, 4, 4, 5, 5, 5, 5, 5, 5, 5, 5, 5, 5, 5, 5, 5, 5, 5, 5, 6, 6, 6, 6, 6, 6, 6, 6, 6, 6, 6, 6, 6, 6, 6, 6, 6, 6, 6, 6, 6, 6, 6, 6, 6, 6, 6, 6, 6, 6, 6, 6, 7, 7, 7, 7, 7, 7, 7, 7, 7, 7, 7, 7, 7, 7, 7, 7, 7, 7, 7, 7, 7, 7, 7, 7, 7, 7, 7, 7, 7, 7, 7, 7, 7, 7, 7, 7, 7, 7, 7, 7, 7, 7, 7, 7, 7, 7, 7, 7, 7, 7, 7, 7, 7, 7, 7, 7, 7, 7, 7, 7, 7, 7, 7, 7, 8, 8, 8, 8, 8, 8, 8, 8, 8, 8, 8, 8, 8, 8, 8, 8, 8, 8, 8, 8, 8, 8, 8, 8, 8, 8, 8, 8, 8, 8, 8, 8, 8, 8, 8, 8, 8, 8, 8, 8, 8, 8, 8, 8, 8, 8, 8, 8, 8, 8, 8, 8, 8, 8, 8, 8, 8, 8, 8, 8, 8, 8, 8, 8, 8, 8, 8, 8, 8, 8, 8, 8, 8, 8, 8, 8, 8, 8, 8, 8, 8, 8, 8, 8, 8, 8, 8, 8, 8, 8, 8, 8, 8, 8, 8, 8, 8, 8, 8, 8, 8, 8, 8, 8, 8, 8, 8, 8, 8, 8, 8, 8, 8, 8, 8, 8, 8, 8, 8, 8, 8, 8, 8, 8, 8, 8, 8, 8]).at x) (bitsN x)) = true := by kernel_rfl
 rw [Nat.eq_of_beq_eq_true (List.all_eq_true.1 h2 x (List.mem_range.2 h))]
theorem Jkp {n : Nat} (h : n < 1000000) : bitsN n ≤ 20 := by
 unfold bitsN
 by_cases h0 : n = 0
 ·simp [h0]
 ·rw [decide_eq_false h0, cond_false]
  have := (Nat.log2_lt h0 (k := 20)).2 (by omega)
  omega
theorem Jkq (n : Nat) : n < 2 ^ bitsN n := by
 unfold bitsN
 by_cases h0 : n = 0
 ·subst h0; decide
 ·rw [decide_eq_false h0, cond_false]
  exact Nat.lt_log2_self
theorem Jkr {n : Nat} (h0 : n ≠ 0) : 2 ^ (bitsN n - 1) ≤ n := by
 unfold bitsN
 rw [decide_eq_false h0, cond_false, Nat.add_sub_cancel]
 exact Nat.log2_self_le h0
def lenB (u : Nat) : Nat := cond (decide (65536 ≤ u)) (16 + bitsN (u / 65536)) (8 + bitsN (u / 256))
theorem Jhz {u : Nat} (h1 : 256 ≤ u) (h2 : u < 1000000) : 9 ≤ lenB u ∧ lenB u ≤ 20 ∧ u < 2 ^ lenB u ∧ 2 ^ (lenB u - 1) ≤ u := by
 unfold lenB
 by_cases hb : 65536 ≤ u
 ·rw [decide_eq_true hb, cond_true]
  have a1 := Jkq (u / 65536)
  have a2 := Jkr (n := u / 65536) (by omega)
  have a3 : bitsN (u / 65536) ≤ 4 := by
   unfold bitsN
   rw [decide_eq_false (by omega), cond_false]
   have := (Nat.log2_lt (n := u / 65536) (by omega) (k := 4)).2 (by omega)
   omega
  have a4 : 1 ≤ bitsN (u / 65536) := by unfold bitsN; rw [decide_eq_false (by omega), cond_false]; omega
  generalize bitsN (u / 65536) = k at a1 a2 a3 a4
  rcases (show k = 1 ∨ k = 2 ∨ k = 3 ∨ k = 4 by omega) with rfl | rfl | rfl | rfl <;> simp at a1 a2 ⊢ <;> omega
 ·rw [decide_eq_false hb, cond_false]
  have a1 := Jkq (u / 256)
  have a2 := Jkr (n := u / 256) (by omega)
  have a3 : bitsN (u / 256) ≤ 8 := by
   unfold bitsN
   rw [decide_eq_false (by omega), cond_false]
   have := (Nat.log2_lt (n := u / 256) (by omega) (k := 8)).2 (by omega)
   omega
  have a4 : 1 ≤ bitsN (u / 256) := by unfold bitsN; rw [decide_eq_false (by omega), cond_false]; omega
  generalize bitsN (u / 256) = k at a1 a2 a3 a4
  rcases (show k = 1 ∨ k = 2 ∨ k = 3 ∨ k = 4 ∨ k = 5 ∨ k = 6 ∨ k = 7 ∨ k = 8 by omega) with rfl | rfl | rfl | rfl | rfl | rfl | rfl | rfl <;> simp at a1 a2 ⊢ <;> omega
def digN (u : Nat) : Nat := if u < 1000 then 3 else if u < 10000 then 4 else if u < 100000 then 5 else 6
theorem Jnx {u : Nat} (h1 : 256 ≤ u) (h2 : u < 1000000) : lenB u * 78913 / 262144 + (if 10 ^ (lenB u * 78913 / 262144) ≤ u then 1 else 0) = digN u := by
 obtain ⟨h3, h4, h5, h6⟩ := Jhz h1 h2
 generalize lenB u = k at h3 h4 h5 h6
 unfold digN
 rcases (show k = 9 ∨ k = 10 ∨ k = 11 ∨ k = 12 ∨ k = 13 ∨ k = 14 ∨ k = 15 ∨ k = 16 ∨ k = 17 ∨ k = 18 ∨ k = 19 ∨ k = 20 by omega) with rfl | rfl | rfl | rfl | rfl | rfl | rfl | rfl | rfl | rfl | rfl | rfl <;> simp at h5 h6 ⊢ <;> (repeat' split) <;> omega
variable [Memo] [NY]
set_option maxRecDepth 100000 in
theorem JoF (gl : Gl) (st : St) (n : Nat) (hn : n ≤ 64) :
  Says Tryz.prog gl 86 [.int .i64 (n : Int)] st (fun v st' => v = .int .i64 ((n * 78913 / 262144 : Nat) : Int) ∧ Sm st st') := by
 refine JS (NY.no _ rfl rfl rfl _ _) Tryz.func86 rfl (by kernel_rfl) fun R hR K gr gn => ?_
 generalize hfr : Jx gl [.int .i64 (n : Int)] = fr
 have hF : Fs gl [(0, .int .i64 (n : Int))] fr := by subst hfr; simp [Fs]
 simp only [Fs] at hF
 clear hfr
 obtain ⟨m, hm⟩ : ∃ m : Nat, n * 78913 = m := ⟨_, rfl⟩
 have mu : ∀ kk, Jn Tryz.prog kk .mul 3 (.int .i64 (n : Int)) (.int .i64 78913) = some (.int .i64 (m : Int)) := fun kk => by rw [Qs, Jr (by omega) (by omega)]; congr 1; congr 1; omega
 have sh : ∀ kk, Jn Tryz.prog kk .shr 3 (.int .i64 (m : Int)) (.int .u64 18) = some (.int .i64 ((m / 262144 : Nat) : Int)) := fun kk => JeK (k := .i64) m 18 (by decide)
 rw [hm] at hR
 obtain ⟨q, hq⟩ : ∃ q : Nat, m / 262144 = q := ⟨_, rfl⟩
 rw [hq] at sh hR
 refine Ks_ (Ka_ (gs := [none]) fun K1 gK => ?_)
 simp (disch := omega) []
 refine gK _ _ (Ks_ (Ka_ (gs := [none, none, none, none]) fun K1 gK => ?_))
 simp (disch := omega) [hF, mu, sh]
 refine gK _ _ (Kq_ (gr _ _ ?_))
 simp [JC, Tryz.f86, hF]
 refine hR _ _ ?_
 exact ⟨rfl, rfl⟩
set_option maxRecDepth 100000 in
theorem JlP (gl : Gl) (st : St) (u : Nat) (h1 : 256 ≤ u) (h2 : u < 1000000) :
  Says Tryz.prog gl 87 [.int .u64 (u : Int)] st (fun v st' => v = .int .i64 (lenB u : Int) ∧ Sm st st') := by
 refine JS (NY.no _ rfl rfl rfl _ _) Tryz.func87 rfl (by kernel_rfl) fun R hR K gr gn => ?_
 generalize hfr : Jx gl [.int .u64 (u : Int)] = fr
 have hF : Fs gl [(0, .int .u64 (u : Int))] fr := by subst hfr; simp [Fs]
 simp only [Fs] at hF
 clear hfr
 have h3 : u < 4294967296 := by omega
 refine Ks_ (Ka_ (gs := [none]) fun K1 gK => ?_)
 simp (disch := omega) []
 refine gK _ _ (Ks_ (Ks_ (Ka_ (gs := [none, none]) fun K1 gK => ?_)))
 simp (disch := omega) [hF]
 refine gK _ _ (Kf_ (by simp (disch := omega) [h3]) (Kk_ (Ks_ (Ks_ (Ka_ (gs := [none, none]) fun K1 gK => ?_)))))
 simp (disch := omega) [hF]
 refine gK _ _ ?_
 by_cases hb : 65536 ≤ u
 ·
  refine Kt_ (by simp (disch := omega) [hb]) ?_
  have sh : ∀ kk, Jn Tryz.prog kk .shr 87 (.int .u64 (u : Int)) (.int .u64 16) = some (.int .u64 ((u / 65536 : Nat) : Int)) := fun kk => JeK (k := .u64) u 16 (by decide)
  have hq15 : u / 65536 < 256 := by omega
  rw [lenB, decide_eq_true hb, cond_true] at hR
  obtain ⟨q, hq⟩ : ∃ q : Nat, u / 65536 = q := ⟨_, rfl⟩
  rw [hq] at sh hq15 hR
  have c1 : ∀ st, QJ Tryz.prog st 87 5 (.int .u64 (q : Int)) = some (.int .u8 (q : Int)) := fun st => by rw [Q5 Tryz.underlying87 Tryz.underlying5, Ja6 (by omega) (by omega)]
  have hbl := Jkp (n := q) (by omega)
  have c2 : ∀ st, QJ Tryz.prog st 5 3 (.int .u8 ((bitsN q : Nat) : Int)) = some (.int .i64 (bitsN q : Int)) := fun st => by rw [Q5 Tryz.underlying5 Tryz.underlying3, Jr (by omega) (by omega)]
  have hx := Jko hq15
  refine Ks_ (Ka_ (gs := [none, none, none]) fun K1 gK => ?_)
  simp (disch := omega) [hF, hb, sh]
  refine gK _ _ (Ka_ (gs := [none, none, none]) fun K1 gK => ?_)
  simp (disch := omega) []
  refine gK _ _ (Ks_ (Ks_ (Ka_ (gs := [none, none]) fun K1 gK => ?_)))
  simp (disch := omega) []
  refine gK _ _ (Kf_ (by simp (disch := omega) [hq15]) (Kk_ (Ks_ (Ka_ (gs := [none, none, none, none, none, none, none]) fun K1 gK => ?_))))
  simp (disch := omega) [c1, c2, hx]
  refine gK _ _ (Kq_ (gr _ _ ?_))
  simp [JC, Tryz.f87, hF]
  refine hR _ _ ?_
  exact ⟨rfl, rfl⟩
 ·
  refine Kf_ (by simp (disch := omega) [hb]) ?_
  have sh : ∀ kk, Jn Tryz.prog kk .shr 87 (.int .u64 (u : Int)) (.int .u64 8) = some (.int .u64 ((u / 256 : Nat) : Int)) := fun kk => JeK (k := .u64) u 8 (by decide)
  have hq15 : u / 256 < 256 := by omega
  rw [lenB, decide_eq_false hb, cond_false] at hR
  obtain ⟨q, hq⟩ : ∃ q : Nat, u / 256 = q := ⟨_, rfl⟩
  rw [hq] at sh hq15 hR
  have c1 : ∀ st, QJ Tryz.prog st 87 5 (.int .u64 (q : Int)) = some (.int .u8 (q : Int)) := fun st => by rw [Q5 Tryz.underlying87 Tryz.underlying5, Ja6 (by omega) (by omega)]
  have hbl := Jkp (n := q) (by omega)
  have c2 : ∀ st, QJ Tryz.prog st 5 3 (.int .u8 ((bitsN q : Nat) : Int)) = some (.int .i64 (bitsN q : Int)) := fun st => by rw [Q5 Tryz.underlying5 Tryz.underlying3, Jr (by omega) (by omega)]
  have hx := Jko hq15
  refine Kk_ (Ks_ (Ks_ (Ka_ (gs := [none, none]) fun K1 gK => ?_)))
  simp (disch := omega) [hF, hb, h1]
  refine gK _ _ (Kt_ (by simp (disch := omega) []) (Ks_ (Ka_ (gs := [none, none, none]) fun K1 gK => ?_)))
  simp (disch := omega) [hF, sh]
  refine gK _ _ (Ka_ (gs := [none, none, none]) fun K1 gK => ?_)
  simp (disch := omega) []
  refine gK _ _ (Ks_ (Ka_ (gs := [none, none, none, none, none, none, none]) fun K1 gK => ?_))
  simp (disch := omega) [c1, c2, hx]
  refine gK _ _ (Kq_ (gr _ _ ?_))
  simp [JC, Tryz.f87, hF]
  refine hR _ _ ?_
  exact ⟨rfl, rfl⟩
end Go.Vm
namespace Go.Vm
open Go Go.Proofs Go.Pa
attribute [local simp] OkS Qi OkG Qh Qp OkD JY Qr JI Jm Jq vop Js JB ev evs toV Jl Fr.dsTo Fr.glTo Fr.toNone Ji Jj Jk Qk QL Jd JD Jv V.undef JW JM J7 JX J3 J9 J8 Qa JH J4 J5 JZ JO Qb Jt Ju Jw Jz JE Jr JL JN JK Qq
theorem Jpo {u : Nat} (h1 : 256 ≤ u) (h2 : u < 1000000) : 2 ≤ lenB u * 78913 / 262144 ∧ lenB u * 78913 / 262144 ≤ 6 := by
 obtain ⟨h3, h4, h5, h6⟩ := Jhz h1 h2
 omega
theorem pix {t : Nat} (h1 : 2 ≤ t) (h2 : t ≤ 6) : Jo Tryz.prog 121 (.cp powV) (.int .i64 (t : Int)) = some (.cp (powV.drop t)) := by
 rcases (show t = 2 ∨ t = 3 ∨ t = 4 ∨ t = 5 ∨ t = 6 by omega) with rfl | rfl | rfl | rfl | rfl <;> kernel_rfl
theorem pld {t : Nat} (h1 : 2 ≤ t) (h2 : t ≤ 6) (st : St) : Qe Tryz.prog st 87 (.cp (powV.drop t)) = some (.int .u64 ((10 ^ t : Nat) : Int)) := by
 rcases (show t = 2 ∨ t = 3 ∨ t = 4 ∨ t = 5 ∨ t = 6 by omega) with rfl | rfl | rfl | rfl | rfl <;> kernel_rfl
variable [Memo] [NY]
set_option maxRecDepth 100000 in
theorem Jpp (gl : Gl) (st : St) (b : Bool) :
  Says Tryz.prog gl 88 [.bool b] st (fun v st' => v = .int .i64 ((cond b 1 0 : Nat) : Int) ∧ Sm st st') := by
 refine JS (NY.no _ rfl rfl rfl _ _) Tryz.func88 rfl (by kernel_rfl) fun R hR K gr gn => ?_
 generalize hfr : Jx gl [.bool b] = fr
 have hF : Fs gl [(0, .bool b)] fr := by subst hfr; simp [Fs]
 simp only [Fs] at hF
 clear hfr
 refine Ks_ (Ka_ (gs := [none]) fun K1 gK => ?_)
 simp (disch := omega) []
 refine gK _ _ (Ks_ (Ks_ (Ka_ (gs := [none]) fun K1 gK => ?_)))
 simp (disch := omega) [hF]
 refine gK _ _ ?_
 cases b with
 | true =>
  refine Kt_ (by simp (disch := omega) []) (Ks_ (Ka_ (gs := [none]) fun K1 gK => ?_))
  simp (disch := omega) []
  refine gK _ _ (Kq_ (gr _ _ ?_))
  simp [JC, Tryz.f88, hF]
  refine hR _ _ ?_
  exact ⟨rfl, rfl⟩
 | false =>
  refine Kf_ (by simp (disch := omega) []) (Kk_ (Ks_ (Ka_ (gs := [none]) fun K1 gK => ?_)))
  simp (disch := omega) []
  refine gK _ _ (Kq_ (gr _ _ ?_))
  simp [JC, Tryz.f88, hF]
  refine hR _ _ ?_
  exact ⟨rfl, rfl⟩
set_option maxRecDepth 100000 in
theorem Jny (gl : Gl) (hg : gl.get 1 = some powV) (st : St) (u : Nat) (h1 : 256 ≤ u) (h2 : u < 1000000) :
  Says Tryz.prog gl 72 [.int .u64 (u : Int)] st (fun v st' => v = .int .i64 (digN u : Int) ∧ Sm st st') := by
 refine JS (NY.no _ rfl rfl rfl _ _) Tryz.func72 rfl (by kernel_rfl) fun R hR K gr gn => ?_
 generalize hfr : Jx gl [.int .u64 (u : Int)] = fr
 have hF : Fs gl [(0, .int .u64 (u : Int))] fr := by subst hfr; simp [Fs]
 simp only [Fs] at hF
 clear hfr
 obtain ⟨h3, h4, _, _⟩ := Jhz h1 h2
 obtain ⟨t1, t2⟩ := Jpo h1 h2
 obtain ⟨v, s1, hc1, rfl, hs1⟩ := Says.use (JlP gl st u h1 h2)
 obtain rfl : s1 = st := hs1
 obtain ⟨v, s2, hc2, rfl, hs2⟩ := Says.use (JoF gl s1 (lenB u) (by omega))
 obtain rfl : s2 = s1 := hs2
 have hdn := Jnx h1 h2
 obtain ⟨t, ht⟩ : ∃ t : Nat, lenB u * 78913 / 262144 = t := ⟨_, rfl⟩
 rw [ht] at t1 t2 hc2 hdn
 have hix := pix t1 t2
 have hld := pld t1 t2
 obtain ⟨p, hp⟩ : ∃ p : Nat, 10 ^ t = p := ⟨_, rfl⟩
 simp only [hp] at hld hdn
 obtain ⟨B, hB⟩ : ∃ b, decide (p ≤ u) = b := ⟨_, rfl⟩
 have ge : ∀ kk, Jn Tryz.prog kk .geq 87 (.int .u64 (u : Int)) (.int .u64 (p : Int)) = some (.bool B) := fun kk => by rw [Qa, hB]
 obtain ⟨v, s3, hc3, rfl, hs3⟩ := Says.use (Jpp gl s2 B)
 obtain rfl : s3 = s2 := hs3
 obtain ⟨c, e1, e2, e3⟩ : ∃ c : Nat, cond B 1 0 = c ∧ c ≤ 1 ∧ t + c = digN u := by
  rw [← hdn]
  cases B with
  | true => have := of_decide_eq_true hB; rw [if_pos this]; exact ⟨1, rfl, by omega, rfl⟩
  | false => have := of_decide_eq_false hB; rw [if_neg this]; exact ⟨0, rfl, by omega, rfl⟩
 rw [e1] at hc3
 refine Ks_ (Ka_ (gs := [none]) fun K1 gK => ?_)
 simp (disch := omega) []
 refine gK _ _ (Ks_ (Ka_ (gs := [none, none, none, none]) fun K1 gK => ?_))
 simp (disch := omega) [hF, hc1, hc2]
 refine gK _ _ (Ks_ (Ka_ (gs := [none, none, none, none, none, none, none, none, none]) fun K1 gK => ?_))
 simp (disch := omega) [hF, hix, hld, ge, hc3, hg]
 refine gK _ _ (Kq_ (gr _ _ ?_))
 simp [JC, Tryz.f72, hF]
 refine hR _ _ ?_
 rw [← e3]
 exact ⟨rfl, rfl⟩
end Go.Vm
