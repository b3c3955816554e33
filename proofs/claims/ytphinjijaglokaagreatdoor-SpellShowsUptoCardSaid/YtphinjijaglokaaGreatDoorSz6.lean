/- The place of a fact: by the program. -/
import Derived.Test.YtphinjijaglokaaGreatDoorSz5
namespace Go.Vm
open Go Go.Proofs Go.Pa
attribute [local simp] OkG Qh Qp OkD JY Qr JI Jm Jq vop Js JB ev evs toV Jl Fr.dsTo Fr.glTo Fr.toNone Ji Jj Jk Qk QL Jd JD Jv V.undef JW JM J7 JX J3 J9 J8 Qa JH J4 J5 JZ JO Qb Jt Ju Jw Jz JE Jr JL JN JK Qq JV JaI QI
theorem z26 : Qj Tryz.prog 28 = some 1 := by kernel_rfl
theorem a26 : Jag Tryz.prog 28 = some false := by kernel_rfl
theorem Jjg {st : St} {T id : Nat} {v w : V} {e : TypeId} {fl : Bool} (hz : Qj Tryz.prog T = some 1) (hs : JgL v = true) (hb : st.box.get id = some (.cells [w] e fl (some 0))) : Q0 Tryz.prog st T (.ptr id 0) v = some (st.put id (.cells [v] e fl (some 0))) := by
 rw [QR hz hb (by simp) hs]; rfl
theorem two {s : St} {a b : Nat} {v w v0 w0 : V} (hab : a ≠ b) (ha : s.box.get a = some (.cells [v0] 22 true (some 0))) (hb : s.box.get b = some (.cells [w0] 28 true (some 0))) (hv : JgL v = true) (hw : JgL w = true) :
  ∃ s2 s3, Q0 Tryz.prog s 22 (.ptr a 0) v = some s2 ∧ Q0 Tryz.prog s2 28 (.ptr b 0) w = some s3 ∧ Qe Tryz.prog s3 22 (.ptr a 0) = some v ∧ Qe Tryz.prog s3 28 (.ptr b 0) = some w ∧ s3.ctr = s.ctr ∧
   s3.box.get a = some (.cells [v] 22 true (some 0)) ∧ s3.box.get b = some (.cells [w] 28 true (some 0)) ∧ ∀ i, i ≠ a → i ≠ b → s3.box.get i = s.box.get i := by
 have h1 := Jjg z23 hv ha
 have hb2 : (s.put a (.cells [v] 22 true (some 0))).box.get b = some (.cells [w0] 28 true (some 0)) := by rw [put_get, if_neg (Ne.symm hab)]; exact hb
 have h2 := Jjg z26 hw hb2
 have ga : ((s.put a (.cells [v] 22 true (some 0))).put b (.cells [w] 28 true (some 0))).box.get a = some (.cells [v] 22 true (some 0)) := by rw [put_get, if_neg hab, put_get, if_pos rfl]
 have gb : ((s.put a (.cells [v] 22 true (some 0))).put b (.cells [w] 28 true (some 0))).box.get b = some (.cells [w] 28 true (some 0)) := by rw [put_get, if_pos rfl]
 exact ⟨_, _, h1, h2, Qd (off := 0) a23 z23 ga rfl, Qd (off := 0) a26 z26 gb rfl, rfl, ga, gb, fun i h3 h4 => by rw [put_get, if_neg h4, put_get, if_neg h3]⟩
variable [Memo] [NY]
end Go.Vm
namespace Go.Vm
open Go Go.Proofs Go.Pa
end Go.Vm
namespace Go.Vm
open Go Go.Proofs Go.Pa
attribute [local simp] OkG Qh Qp OkD JY Qr JI Jm Jq vop Js JB ev evs toV Jl Fr.dsTo Fr.glTo Fr.toNone Ji Jj Jk Qk QL Jd JD Jv V.undef JW JM J7 JX J3 J9 J8 Qa JH J4 J5 JZ JO Qb Jt Ju Jw Jz JE Jr JL JN JK Qq JV JaI QI
def JdX (b : UInt8) : List UInt8 := if b = 10 then [92, 110] else if b = 92 then [92, 92] else [b]
def esc (l : List UInt8) : List UInt8 := l.flatMap JdX
def JdY (p : List S) : List UInt8 := match p with
 | [] => [47]
 | p => p.flatMap fun s => 47 :: s.toList
def JdE : Nat → Nat → List UInt8
 | 0, _ => []
 | d + 1, n => (if n / 10 = 0 then [] else JdE d (n / 10)) ++ [UInt8.ofNat (48 + n % 10)]
def QW (n : Nat) : List UInt8 := JdE (n + 1) n
def Jjh (f : Fw) : List UInt8 :=
 cond (!f.known) [97, 110, 121] <| cond (decide (f.kind = 0)) [97, 98, 115, 101, 110, 116] <| cond (decide (f.kind = 1)) [102, 105, 108, 101] <| cond (decide (f.kind = 3)) [108, 105, 110, 107] <|
 cond (decide (f.rest = 1)) ([100, 105, 114, 32, 119, 104, 111, 108, 101]) <| cond (decide (f.rest = 2)) ([100, 105, 114, 32, 109, 111, 114, 101, 32] ++ QW f.beside.toNat) [100, 105, 114]
theorem JdZ (a b : List UInt8) : esc (a ++ b) = esc a ++ esc b := by simp [esc]
theorem JbC : ∀ l : List UInt8, (esc l).length ≤ 2 * l.length
 | [] => Nat.le_refl _
 | a :: l => by
  have := JbC l
  have h1 : (JdX a).length ≤ 2 := by
   unfold JdX
   split
   ·simp
   ·split <;> simp
  rw [show esc (a :: l) = JdX a ++ esc l from by simp [esc], List.length_append, List.length_cons]; omega
theorem JdF (s : S) {i : Nat} (h : i < s.n) : s.toList.take (i + 1) = s.toList.take i ++ [UInt8.ofNat (s.at i)] := by
 have h1 := s.toList_at h
 have h2 : i < s.toList.length := by rw [S.len]; exact h
 rw [List.take_add_one, h1]; rfl
theorem JcT (a b : S) : (a.app b).n = a.n + b.n := rfl
theorem Qu (l : List UInt8) : (S.ofList l).n = l.length := rfl
theorem Jkg : JdX (UInt8.ofNat 10) = [92, 110] := rfl
theorem Jkh : JdX (UInt8.ofNat 92) = [92, 92] := rfl
theorem Jez {c : Nat} (hc : c < 256) (h1 : ¬ c = 10) (h2 : ¬ c = 92) : JdX (UInt8.ofNat c) = [UInt8.ofNat c] := by
 have e1 : ¬ UInt8.ofNat c = 10 := fun h => h1 ((Jdj hc (by decide : 10 < 256)).1 h)
 have e2 : ¬ UInt8.ofNat c = 92 := fun h => h2 ((Jdj hc (by decide : 92 < 256)).1 h)
 unfold JdX
 rw [if_neg e1, if_neg e2]
theorem JlE {s : S} {i : Nat} (h : i < s.n) : (s.cut i (i + 1)).toList = [UInt8.ofNat (s.at i)] := by
 rw [S.toList_cut s (by omega) (by omega), S.drop_at s h]
 simp
variable [Memo] [NY]
omit [Memo] [NY] in
theorem Jcm (c : UInt8) {B : Nat} : ∀ (p : List S), (∀ s ∈ p, s.n ≤ B) → (p.flatMap fun s => c :: s.toList).length ≤ (B + 1) * p.length
 | [], _ => Nat.zero_le _
 | s :: p, h => by
  have := Jcm c p fun t ht => h t (by simp [ht])
  have := h s (by simp)
  simp only [List.flatMap_cons, List.length_append, List.length_cons, S.len, Nat.mul_add]; omega
omit [Memo] [NY] in
theorem Jh6 (p : List S) (h : ∀ s ∈ p, s.n ≤ 300) : (p.flatMap fun s => 47 :: s.toList).length ≤ 301 * p.length := Jcm 47 p h
omit [Memo] [NY] in
theorem JgV {c : UInt8} {p : List S} {i : Nat} (h : i < p.length) : (p.take (i + 1)).flatMap (fun s => c :: s.toList) = (p.take i).flatMap (fun s => c :: s.toList) ++ c :: p[i].toList := by
 rw [List.take_add_one, List.getElem?_eq_getElem h, List.flatMap_append]; simp
omit [Memo] [NY] in
theorem Jh7 {p : List S} (h : ¬ p = []) : JdY p = p.flatMap fun s => 47 :: s.toList := by
 cases p with
 | nil => exact absurd rfl h
 | cons a b => rfl
set_option maxRecDepth 100000 in
theorem JlF (gl : Gl) (st : St) (x : V) (p : List S) (hx : Vw st x p) (hp : p.length ≤ 600) (hs : ∀ s ∈ p, s.n ≤ 300) :
  Says Tryz.prog gl 52 [x] st (fun v st' => (∃ t : S, v = .str t ∧ t.toList = JdY p) ∧ Sm st st') := by
 refine JS (NY.no _ rfl rfl rfl _ _) Tryz.func52 rfl (by kernel_rfl) fun R hR K gr gn => ?_
 generalize hfr : Jx gl [x] = fr
 have hF : Fs gl [(0, x)] fr := by subst hfr; simp [Fs]
 simp only [Fs] at hF
 clear hfr
 have lx := hx.len Tryz.underlying22
 refine Ks_ (Ka_ (gs := [none]) fun K1 gK => ?_)
 simp (disch := omega) []
 refine gK _ _ (Ks_ (Ks_ (Ka_ (gs := [none, none, none]) fun K1 gK => ?_)))
 simp (disch := omega) [hF, lx]
 refine gK _ _ ?_
 by_cases h0 : p = []
 ·
  refine Kt_ (by simp (disch := omega) [h0]) (Ks_ (Ka_ (gs := [none]) fun K1 gK => ?_))
  simp (disch := omega) [h0]
  refine gK _ _ (Kq_ (gr _ _ ?_))
  simp [JC, Tryz.f52, hF]
  refine hR _ _ ?_
  exact ⟨⟨S.ofList [47], rfl, by rw [h0]; rfl⟩, rfl⟩
 ·
  refine Kf_ (by simp (disch := omega) [h0]) (Kk_ (Ks_ (Ka_ (gs := [none]) fun K1 gK => ?_)))
  simp (disch := omega) [h0]
  refine gK _ _ (Ks_ (Ks_ (Ka_ (gs := [none]) fun K1 gK => ?_)))
  simp (disch := omega) []
  refine gK _ _ ?_
  refine Kl_ (p.length) (fun i fr st' => ∃ (acc : S), Fs gl [(0, x), (3, .str acc), (4, .int .i64 (i : Int))] fr ∧ i ≤ p.length ∧ acc.toList = (p.take i).flatMap (fun s => 47 :: s.toList) ∧ st = st') (0) (fun fr st' => ∃ (acc : S), Fs gl [(3, .str acc)] fr ∧ acc.toList = p.flatMap (fun s => 47 :: s.toList) ∧ st = st') ?_ ?_ ?_ ?_
  ·exact ⟨⟨0, 0⟩, by simp [Fs, hF, S.ofList, enc],  Nat.zero_le _, rfl, rfl⟩
  ·rintro i fr st' ⟨acc, _, hi, hacc, rfl⟩
   omega
  ·as_aux_lemma =>
   clear hF
   rintro i fr st' ⟨acc, hF, hi, hacc, rfl⟩ K5 gk5 gx5 go5
   simp only [Fs] at hF
   refine Ks_ (Ks_ (Ka_ (gs := [none, none, none, none]) fun K1 gK => ?_))
   simp (disch := omega) [hF, lx]
   refine gK _ _ ?_
   by_cases hlt : i < p.length
   ·
    refine Kt_ (by simp (disch := omega) [hlt]) ?_
    have hxi := hx.ix Tryz.underlying22 z9 (k := .i64) (a := (i : Int)) (by omega) (by omega)
    have hxd := hx.ld z9 a9 hlt
    have han : acc.n ≤ 301 * i := by
     have h1 := congrArg List.length hacc
     have h2 := Jh6 (p.take i) fun s hm => hs s (List.mem_of_mem_take hm)
     rw [S.len] at h1
     rw [List.length_take, Nat.min_eq_left hi] at h2
     omega
    have hsn := hs _ (List.getElem_mem hlt)
    have ad1 : ∀ kk, Jn Tryz.prog kk .add 9 (.str acc) (.str (S.ofList [47])) = some (.str (acc.app (S.ofList [47]))) := fun kk => Jai (by rw [Qu]; simp; omega)
    have ad2 : ∀ kk, Jn Tryz.prog kk .add 9 (.str (acc.app (S.ofList [47]))) (.str p[i]) = some (.str ((acc.app (S.ofList [47])).app p[i])) := fun kk => Jai (by rw [JcT, Qu]; simp; omega)
    refine Kk_ (Ks_ ?_)
    refine Kb_ fun K6 gn6 gx6 go6 => ?_
    refine Ka_ (gs := [none, none, none, none, none, none, none, none]) fun K1 gK => ?_
    simp (disch := omega) [hF, hlt, hxi, hxd, ad1, ad2]
    refine gK _ _ (gn6 _ _ (Ka_ (gs := [none, none, none]) fun K1 gK => ?_))
    simp (disch := omega) [hF]
    refine gK _ _ ?_
    refine gk5 (i + 1) _ _ (by omega) ⟨(acc.app (S.ofList [47])).app p[i], by simp [Fs, hF], by omega, by rw [S.toList_app, S.toList_app, hacc, S.toList_ofList, JgV hlt]; simp, rfl⟩
   ·
    refine Kf_ (by simp (disch := omega) [hlt]) ?_
    exact Kx_ (gx5 _ _ ⟨acc, by simp [Fs, hF, hlt], by rw [hacc, List.take_of_length_le (by omega)], rfl⟩)
  ·as_aux_lemma =>
   clear hF
   rintro fr st' ⟨acc, hF, hacc, rfl⟩
   simp only [Fs] at hF
   refine Ks_ (Ka_ (gs := [none, none]) fun K1 gK => ?_)
   simp (disch := omega) [hF]
   refine gK _ _ (Kq_ (gr _ _ ?_))
   simp [JC, Tryz.f52, hF]
   refine hR _ _ ?_
   exact ⟨⟨_, rfl, by rw [hacc, Jh7 h0]⟩, rfl⟩
class NZ [Memo] : Prop where
 itoa : ∀ (n : Nat) (st : St), n ≤ 255 → ∃ t : S, (Memo.look 23).run [.int .i64 (n : Int)] st = some (.str t, st) ∧ t.toList = QW n
 digits : ∀ (n : Nat) (st : St), n ≤ 255 → ∃ t : S, (Memo.look 45).run [.int .i64 (n : Int)] st = some (.str t, st) ∧ t.toList = QW n
 itoaN : ∀ (n : Nat) (st : St), 255 < n → (Memo.look 23).run [.int .i64 (n : Int)] st = none
 digitsN : ∀ (n : Nat) (st : St), 255 < n → (Memo.look 45).run [.int .i64 (n : Int)] st = none
omit [NY] in
theorem Jdb {P : Program} {gl : Gl} {f : Nat} {args : List V} {st st' : St} {v : V} (h : (Memo.look f).run args st = some (v, st')) : W P (.call gl f args) st = .call (.val v st') := by
 refine Jl2 rfl ⟨1, fun m hm => ?_⟩
 obtain ⟨k, rfl⟩ : ∃ k, m = k + 1 := ⟨m - 1, by omega⟩
 simp only [X, Jek, h]
omit [NY] in
theorem Jnn [NZ] (gl : Gl) (st : St) (n : Nat) (h : n ≤ 255) : Says Tryz.prog gl 23 [.int .i64 (n : Int)] st fun v st' => (∃ t : S, v = .str t ∧ t.toList = QW n) ∧ Sm st st' := by
 obtain ⟨t, h1, h2⟩ := NZ.itoa n st h
 exact ⟨_, _, Jdb h1, ⟨t, rfl, h2⟩, rfl⟩
omit [NY] in
theorem JkW [NZ] (gl : Gl) (st : St) (n : Nat) (h : n ≤ 255) : Says Tryz.prog gl 45 [.int .i64 (n : Int)] st fun v st' => (∃ t : S, v = .str t ∧ t.toList = QW n) ∧ Sm st st' := by
 obtain ⟨t, h1, h2⟩ := NZ.digits n st h
 exact ⟨_, _, Jdb h1, ⟨t, rfl, h2⟩, rfl⟩
end Go.Vm
