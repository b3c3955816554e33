/- strings.Count; a replacer of bytes by texts. -/
import Derived.Test.YtphinjijaglokaaGreatDoorSz7
namespace Go.Vm
open Go Go.Proofs Go.Pa
attribute [local simp] OkG Qh Qp OkD JY Qr JI Jm Jq vop Js JB ev evs toV Jl Fr.dsTo Fr.glTo Fr.toNone Ji Jj Jk Qk QL Jd JD Jv V.undef JW JM J7 JX J3 J9 J8 Qa JH J4 J5 JZ JO Qb Jt Ju Jw Jz JE Jr JL JN JK Qq JV JaI QI
theorem JiM {P : Program} (b : ByteArray) (c : Int) : Q2 P (Extern.BytealgCount.count #[.string b, .int .u8 c]) = some (.int .i64 ((b.data.toList.count c.toNat.toUInt8 : Nat) : Int)) := by
 have h : Extern.BytealgCount.count #[.string b, .int .u8 c] = (do
  let b ← Extern.Bytes.bytesOf (.string b)
  let c' ← Extern.Bytes.asByte (.int .u8 c)
  pure (goInt (b.foldl (fun n x => if x == c' then n + 1 else n) (0 : Nat)))) := rfl
 rw [h]
 simp only [Jay, Extern.Bytes.bytesOf, Extern.Bytes.asByte, Jgf, Option.bind_some]
 rw [Lib.foldl_data, Lib.count_foldl]
 simp [goInt, Lib.countByte]
theorem JgO (s : S) (c : Nat) : JaA Tryz.prog Tryz.f110 [.str s, .int .u8 (c : Int)] = some (.int .i64 ((s.toList.count (UInt8.ofNat c) : Nat) : Int)) := by
 have h1 : Extern.findNext Tryz.f110 = none := by kernel_rfl
 have h2 : Extern.find Tryz.f110 = some Extern.BytealgCount.count := by kernel_rfl
 have h3 := JiM (P := Tryz.prog) ⟨⟨s.toList⟩⟩ (c : Int)
 simp only [JaA, h1, h2, QQ, Jd, ofV]
 show (match Q2 Tryz.prog (Extern.BytealgCount.count #[.string ⟨⟨s.toList⟩⟩, .int .u8 (c : Int)]) with
  | some v => toV 6 v
  | none => none) = _
 rw [h3]
 rfl
def JcA (l : List UInt8) : Bool := l.any fun b => b == 10 || b == 92
theorem JiN : ∀ {l : List UInt8}, JcA l = false → esc l = l
 | [], _ => rfl
 | b :: l, h => by
  unfold JcA at h
  rw [List.any_cons, Bool.or_eq_false_iff, Bool.or_eq_false_iff] at h
  have ih := JiN (l := l) h.2
  have h1 : ¬ b = 10 := by simpa using h.1.1
  have h2 : ¬ b = 92 := by simpa using h.1.2
  rw [show esc (b :: l) = JdX b ++ esc l from by simp [esc], ih]
  unfold JdX
  rw [if_neg h1, if_neg h2]; rfl
theorem Jel : ∀ l : List UInt8, (esc l).length = l.length + l.count 10 + l.count 92
 | [] => rfl
 | b :: l => by
  have ih := Jel l
  rw [show esc (b :: l) = JdX b ++ esc l from by simp [esc], List.length_append, ih, List.count_cons, List.count_cons, List.length_cons]
  unfold JdX
  by_cases h1 : b = 10
  ·subst h1; simp; omega
  ·by_cases h2 : b = 92
   ·subst h2; simp; omega
   ·rw [if_neg h1, if_neg h2]
    simp [h1, h2]; omega
theorem Jn7 (l : List UInt8) : JcA l = (!decide (l.count 10 = 0) || !decide (l.count 92 = 0)) := by
 rw [Bool.eq_iff_iff]
 unfold JcA
 simp only [List.any_eq_true, Bool.or_eq_true, beq_iff_eq, Bool.not_eq_true', decide_eq_false_iff_not, List.count_eq_zero]
 constructor
 ·rintro ⟨b, hb, rfl | rfl⟩
  ·exact .inl fun h => h hb
  ·exact .inr fun h => h hb
 ·rintro (h | h)
  ·exact ⟨10, Classical.not_not.1 h, .inl rfl⟩
  ·exact ⟨92, Classical.not_not.1 h, .inr rfl⟩
def Jem (b1 b2 i : Nat) : V := if i = 10 then .ms b1 0 2 1 none else if i = 92 then .ms b2 0 2 1 none else .nils
def TC (b1 b2 a : Nat) : List V := (List.range 256).map (Jem b1 b2) ++ [.ms a 0 2 1 (some 2)]
theorem JpM {b1 b2 a i : Nat} (h : i < 256) : (TC b1 b2 a)[i]? = some (Jem b1 b2 i) := by
 unfold TC
 rw [List.getElem?_append_left (by simpa using h), List.getElem?_map, List.getElem?_range h]; rfl
theorem Jo5 {b1 b2 a : Nat} : (TC b1 b2 a)[256]? = some (.ms a 0 2 1 (some 2)) := by
 unfold TC
 rw [List.getElem?_append_right (by simp)]; simp
structure RBt (st : St) (t a b1 b2 : Nat) : Prop where
 tb : st.box.get t = some (.cells (TC b1 b2 a) 153 true (some 0))
 ab : st.box.get a = some (.cells [.str (S.ofList [10]), .str (S.ofList [92])] 9 true (some 0))
 b1b : st.box.get b1 = some (.cells [.int .u8 92, .int .u8 110] 5 false none)
 b2b : st.box.get b2 = some (.cells [.int .u8 92, .int .u8 92] 5 false none)
 tlt : t < st.ctr
 alt : a < st.ctr
 lt1 : b1 < st.ctr
 lt2 : b2 < st.ctr
theorem RBt.keep {st st' : St} {t a b1 b2 : Nat} (h : RBt st t a b1 b2) (k : Keep st st') : RBt st' t a b1 b2 :=
 ⟨by rw [k.box _ h.tlt]; exact h.tb, by rw [k.box _ h.alt]; exact h.ab, by rw [k.box _ h.lt1]; exact h.b1b, by rw [k.box _ h.lt2]; exact h.b2b, Nat.lt_of_lt_of_le h.tlt k.ctr, Nat.lt_of_lt_of_le h.alt k.ctr, Nat.lt_of_lt_of_le h.lt1 k.ctr, Nat.lt_of_lt_of_le h.lt2 k.ctr⟩
theorem ft0 (t : Nat) : QK Tryz.prog 153 (.ptr t 0) 0 = some (.ptr t 0) := by kernel_rfl
theorem ft1 (t : Nat) : QK Tryz.prog 153 (.ptr t 0) 1 = some (.ptr t 256) := by kernel_rfl
theorem Jp8 : Tryz.prog.underlying 151 = some (.array 256 40) := by kernel_rfl
theorem tix {t c : Nat} (h : c < 256) : Jo Tryz.prog 151 (.ptr t 0) (.int .u8 (c : Int)) = some (.ptr t c) := by
 have hb : Nat.blt c 256 = true := by rw [JbD]; exact decide_eq_true h
 simp only [Jo, Jp8, Q6, z91, hb, Nat.mul_one, Nat.zero_add]
theorem tld {st : St} {t a b1 b2 c : Nat} (h : RBt st t a b1 b2) (hc : c < 256) : Qe Tryz.prog st 40 (.ptr t c) = some (Jem b1 b2 c) := Qd a91 z91 h.tb (JpM hc)
theorem Jp9 {st : St} {t a b1 b2 : Nat} (h : RBt st t a b1 b2) : Qe Tryz.prog st 22 (.ptr t 256) = some (.ms a 0 2 1 (some 2)) := Qd a23 z23 h.tb Jo5
theorem JaW {kk : Bool} {a b c d : Nat} {e : Option Nat} : Jn Tryz.prog kk .neq 40 (.ms a b c d e) .nils = some (.bool true) := by simp only [Jn, u91]
theorem JbE {kk : Bool} : Jn Tryz.prog kk .neq 40 .nils .nils = some (.bool false) := by cases kk <;> kernel_rfl
theorem RBt.vw {st : St} {t a b1 b2 : Nat} (h : RBt st t a b1 b2) : Vw st (.ms a 0 2 1 (some 2)) [S.ofList [10], S.ofList [92]] :=
 .ms a 0 (some 2) _ 9 true (some 0) [S.ofList [10], S.ofList [92]] h.ab (fun i hi => by
  simp at hi
  match i, hi with
  | 0, _ => rfl
  | 1, _ => rfl) (by simp) h.alt (by simp [Jdy, JbL])
def Jcl (N : Nat) (acc : List UInt8) : List V := JQ acc ++ List.replicate (N - acc.length) (.int .u8 0)
theorem Jgt {N : Nat} {acc : List UInt8} (h : acc.length ≤ N) : (Jcl N acc).length = N := by unfold Jcl; simp [Qt]; omega
theorem Jhj {N : Nat} {acc r : List UInt8} (h : acc.length + r.length ≤ N) : over (Jcl N acc) acc.length (JQ r) = Jcl N (acc ++ r) := by
 unfold over Jcl
 rw [List.take_append_of_le_length (by simp [Qt]), List.take_of_length_le (by simp [Qt]), JdO]
 congr 1
 rw [List.drop_append, List.drop_of_length_le (by simp [Qt]), List.nil_append, List.drop_replicate, Qt, Qt, List.length_append]
 congr 1
 omega
theorem Jhk {st : St} {id b N : Nat} {acc r : List UInt8} {fl : Bool} (hb : st.box.get id = some (.cells (Jcl N acc) 5 true (some 0))) (hr : st.box.get b = some (.cells (JQ r) 5 fl none)) (h : acc.length + r.length ≤ N) (h0 : 0 < r.length) :
  Jc5 Tryz.prog st 40 (.ms id acc.length (N - acc.length) 1 (some (N - acc.length))) (.ms b 0 r.length 1 none) = some (.int .i64 (r.length : Int), st.put id (.cells (Jcl N (acc ++ r)) 5 true (some 0))) := by
 obtain ⟨d, hd⟩ : ∃ d, N - acc.length = d + 1 := ⟨N - acc.length - 1, by omega⟩
 have h1 : Nat.ble (0 + r.length) (JQ r).length = true := Nat.ble_eq_true_of_le (by rw [Qt]; omega)
 have h2 : Jad st 1 (.ms b 0 r.length 1 none) = some (JQ r, r.length) := by
  simp only [Jad, JP, hr, Nat.mul_one, h1, sub, List.drop_zero]
  rw [List.take_of_length_le (by rw [Qt]; exact Nat.le_refl _)]
 have h3 : Nat.ble (acc.length + (d + 1)) (Jcl N acc).length = true := Nat.ble_eq_true_of_le (by rw [Jgt (by omega)]; omega)
 have h4 : Nat.min (d + 1) r.length = r.length := Nat.min_eq_right (by omega)
 have h5 : Jb6 (some 0) acc.length = true := Nat.ble_eq_true_of_le (Nat.zero_le _)
 rw [hd]
 simp only [Jc5, u91, z5, h2, hb, Nat.mul_one, h3, h4, h5, JdP, show Nat.beq (d + 1) 0 = false from rfl, Nat.beq_refl, Bool.and_self, Bool.not_false]
 rw [List.take_of_length_le (by rw [Qt]; exact Nat.le_refl _), Jhj h]
 rfl
theorem JjU {st : St} {id N c : Nat} {acc : List UInt8} (hc : c < 256) (hb : st.box.get id = some (.cells (Jcl N acc) 5 true (some 0))) (h : acc.length < N) :
  Q0 Tryz.prog st 5 (.ptr id acc.length) (.int .u8 (c : Int)) = some (st.put id (.cells (Jcl N (acc ++ [UInt8.ofNat c])) 5 true (some 0))) := by
 rw [QR z5 hb (by rw [Jgt (by omega)]; exact h) rfl, ← Jis _ _ _ (by rw [Jgt (by omega)]; exact h)]
 have : [V.int .u8 (c : Int)] = JQ [UInt8.ofNat c] := by
  simp [JQ]; omega
 rw [this, Jhj (by simp; omega)]
 rfl
theorem Jln {st : St} {id : Nat} {acc : List UInt8} (hb : st.box.get id = some (.cells (Jcl acc.length acc) 5 true (some 0))) : QJ Tryz.prog st 40 9 (.ms id 0 acc.length 1 (some acc.length)) = some (.str (S.ofList acc)) := by
 have h0 : Jcl acc.length acc = JQ acc := by unfold Jcl; simp
 rw [h0] at hb
 have h1 : Nat.ble (0 + acc.length) (JQ acc).length = true := Nat.ble_eq_true_of_le (by rw [Qt]; omega)
 simp only [QJ, u91, u5, Tryz.underlying9, JP, hb, Nat.mul_one, h1, sub, List.drop_zero]
 rw [List.take_of_length_le (by rw [Qt]; exact Nat.le_refl _), Jcv]
theorem Jhl {id j N : Nat} (h : j ≤ N) : Jan Tryz.prog 40 (.ms id 0 N 1 (some N)) (some (.int .i64 (j : Int))) none = some (.ms id j (N - j) 1 (some (N - j))) := by
 have h1 : Nat.ble j N = true := Nat.ble_eq_true_of_le h
 simp only [Jan, u91, QD, Q6, z5, h1, Jdy, JbL, Bool.and_self, Nat.beq_refl, JeS, Nat.mul_one, Nat.zero_add]
 rfl
variable [Memo] [NY] [NZ]
omit [NZ] in
set_option maxRecDepth 100000 in
theorem Jgu (gl : Gl) (st : St) (s x : S) (hx : x.n = 1) :
  Says Tryz.prog gl 91 [.str s, .str x] st (fun v st' => v = .int .i64 ((s.toList.count (UInt8.ofNat (x.at 0)) : Nat) : Int) ∧ Sm st st') := by
 refine JS (NY.no _ rfl rfl rfl _ _) Tryz.func91 rfl (by kernel_rfl) fun R hR K gr gn => ?_
 generalize hfr : Jx gl [.str s, .str x] = fr
 have hF : Fs gl [(0, .str s), (1, .str x)] fr := by subst hfr; simp [Fs]
 simp only [Fs] at hF
 clear hfr
 have hn : (Tryz.f110.name == "runtime.NumGoroutine") = false := by kernel_rfl
 have hc : ∀ st, JaM Tryz.prog (ihCall (W Tryz.prog)) gl 110 [.str s, .int .u8 ((x.at 0 : Nat) : Int)] st = .val (.int .i64 ((s.toList.count (UInt8.ofNat (x.at 0)) : Nat) : Int)) st := fun st => Jd9 Tryz.func110 hn rfl (JgO s (x.at 0))
 have lx := Jar (P := Tryz.prog) Tryz.underlying9 (s := x)
 rw [hx] at lx
 have hix := Qw (P := Tryz.prog) (k := .i64) Tryz.underlying9 (s := x) (i := 0) (by omega)
 have hix' : Jao Tryz.prog 9 (.str x) (.int .i64 0) = some (.int .u8 ((x.at 0 : Nat) : Int)) := hix
 refine Ks_ (Ka_ (gs := [none]) fun K1 gK => ?_)
 simp (disch := omega) []
 refine gK _ _ (Ks_ (Ks_ (Ka_ (gs := [none, none, none]) fun K1 gK => ?_)))
 simp (disch := omega) [hF, lx]
 refine gK _ _ (Kf_ (by simp (disch := omega) []) (Kk_ (Ks_ (Ks_ (Ka_ (gs := [none, none, none]) fun K1 gK => ?_)))))
 simp (disch := omega) [hF, lx]
 refine gK _ _ (Kt_ (by simp (disch := omega) []) (Ks_ (Ka_ (gs := [none, none, none, none, none]) fun K1 gK => ?_)))
 simp (disch := omega) [hF, hc, hix']
 refine gK _ _ (Kq_ (gr _ _ ?_))
 simp [JC, Tryz.f91, hF]
 refine hR _ _ ?_
 exact ⟨rfl, rfl⟩
omit [Memo] [NY] [NZ] in
theorem Jm1 {s : S} {j : Nat} (h : j < s.n) : JcA (s.toList.take (j + 1)) = (JcA (s.toList.take j) || (decide (s.at j = 10) || decide (s.at j = 92))) := by
 rw [JdF s h]
 unfold JcA
 rw [List.any_append, List.any_cons, List.any_nil, Bool.or_false]
 have hc := S.at_lt s j
 have e (b : Nat) (hb : b < 256) : (UInt8.ofNat (s.at j) == UInt8.ofNat b) = decide (s.at j = b) := by
  rw [Bool.eq_iff_iff, beq_iff_eq, decide_eq_true_iff]; exact Jdj hc hb
 rw [show (UInt8.ofNat (s.at j) == 10) = decide (s.at j = 10) from e 10 (by decide), show (UInt8.ofNat (s.at j) == 92) = decide (s.at j = 92) from e 92 (by decide)]
omit [Memo] [NY] [NZ] in
theorem Jgv {s : S} {j : Nat} (h : j < s.n) : esc (s.toList.take (j + 1)) = esc (s.toList.take j) ++ JdX (UInt8.ofNat (s.at j)) := by
 rw [JdF s h, JdZ]; simp [esc]
omit [Memo] [NY] [NZ] in
theorem Jm2 {s : S} {j : Nat} (h : j < s.n) : (esc (s.toList.take j)).length + (JdX (UInt8.ofNat (s.at j))).length ≤ (esc s.toList).length := by
 have h1 : esc s.toList = esc (s.toList.take (j + 1)) ++ esc (s.toList.drop (j + 1)) := by rw [← JdZ, List.take_append_drop]
 rw [h1, Jgv h]; simp
set_option maxHeartbeats 8000000 in
omit [NZ] in
set_option maxRecDepth 100000 in
theorem Jo6 (gl : Gl) (st : St) (t a b1 b2 : Nat) (s : S) (hT : RBt st t a b1 b2) (hs : s.n ≤ 100000) :
  Says Tryz.prog gl 178 [.ptr t 0, .str s] st (fun v st' => (∃ u : S, v = .str u ∧ u.toList = esc s.toList) ∧ Keep st st') := by
 refine JS (NY.no _ rfl rfl rfl _ _) Tryz.func178 rfl (by kernel_rfl) fun R hR K gr gn => ?_
 generalize hfr : Jx gl [.ptr t 0, .str s] = fr
 have hF : Fs gl [(0, .ptr t 0), (1, .str s)] fr := by subst hfr; simp [Fs]
 simp only [Fs] at hF
 clear hfr
 have ls := Jar Tryz.underlying9 (s := s)
 have lr := Jp9 hT
 have llr : Jab Tryz.prog 22 (.ms a 0 2 1 (some 2)) = some (.int .i64 2) := by simp only [Jab, Tryz.underlying22]; rfl
 have hmul : ∀ kk, Jn Tryz.prog kk .mul 3 (.int .i64 2) (.int .i64 8) = some (.int .i64 16) := fun kk => by cases kk <;> kernel_rfl
 have hl16 : ∀ kk, Jn Tryz.prog kk .leq 3 (.int .i64 16) (.int .i64 (s.n : Int)) = some (.bool (decide (16 ≤ s.n))) := fun kk => by
  have := J9 (P := Tryz.prog) (kk := kk) (T := 3) (q := .i64) (a := 16) (b := s.n)
  exact this
 refine Ks_ (Ka_ (gs := [none]) fun K1 gK => ?_)
 simp (disch := omega) []
 refine gK _ _ (Ks_ (Ka_ (gs := [none, none, none]) fun K1 gK => ?_))
 simp (disch := omega) [hF, ls]
 refine gK _ _ (Ks_ (Ka_ (gs := [none]) fun K1 gK => ?_))
 simp (disch := omega) []
 refine gK _ _ (Ks_ (Ks_ (Ka_ (gs := [none, none, none, none, none, none, none, none, none]) fun K1 gK => ?_)))
 simp (disch := omega) [hF, ls, ft1, lr, llr, hmul, hl16]
 refine gK _ _ ?_
 refine Km_ (fun fr st' => Fs gl [(0, .ptr t 0), (1, .str s), (5, .int .i64 ((esc s.toList).length : Int)), (6, .bool (JcA s.toList))] fr ∧ Keep st st') ?_ ?_
 ·as_aux_lemma =>
  intro K1 gm1 go1
  by_cases h16 : 16 ≤ s.n
  ·
   refine Kt_ (by simp (disch := omega) [h16]) ?_
   obtain ⟨c1, hc1⟩ : ∃ c, s.toList.count 10 = c := ⟨_, rfl⟩
   obtain ⟨c2, hc2⟩ : ∃ c, s.toList.count 92 = c := ⟨_, rfl⟩
   have hlen := Jel s.toList
   have hhas := Jn7 s.toList
   rw [hc1, hc2, S.len] at hlen
   rw [hc1, hc2] at hhas
   have hesc := JbC s.toList
   rw [S.len] at hesc
   refine Ks_ (Ka_ (gs := [none, none, none, none, none, none]) fun K1 gK => ?_)
   simp (disch := omega) [hF, ft1, lr, llr, h16]
   refine gK _ _ ?_
   refine Kl_ (2) (fun i fr st' => Fs gl [(0, .ptr t 0), (1, .str s), (5, .int .i64 (((if i = 0 then s.n else if i = 1 then s.n + c1 else s.n + c1 + c2) : Nat) : Int)), (6, .bool (if i = 0 then false else if i = 1 then !decide (c1 = 0) else (!decide (c1 = 0) || !decide (c2 = 0)))), (30, .ms a 0 2 1 (some 2)), (31, .int .i64 2), (32, .int .i64 (i : Int))] fr ∧ i ≤ 2 ∧ Keep st st') (0) (fun fr st' => Fs gl [(0, .ptr t 0), (1, .str s), (5, .int .i64 ((esc s.toList).length : Int)), (6, .bool (JcA s.toList))] fr ∧ Keep st st') ?_ ?_ ?_ ?_
   ·exact ⟨by simp [Fs, hF], Nat.zero_le _, .refl _⟩
   ·rintro i fr st' ⟨_, hi, hk⟩
    omega
   ·as_aux_lemma =>
    clear hF
    rintro i fr st' ⟨hF, hi, hk⟩ K2 gk2 gx2 go2
    simp only [Fs] at hF
    refine Ks_ (Ka_ (gs := [none]) fun K1 gK => ?_)
    simp (disch := omega) [hF]
    refine gK _ _ (Ks_ ?_)
    by_cases hlt : i < 2
    ·
     refine Kt_ (by simp (disch := omega) [hlt]) ?_
     have hT' := hT.keep hk
     have hvw := hT'.vw
     have cn1 : UInt8.ofNat ((S.ofList [10]).at 0) = 10 := rfl
     have cn2 : UInt8.ofNat ((S.ofList [92]).at 0) = 92 := rfl
     have hti10 : Jo Tryz.prog 151 (.ptr t 0) (.int .u8 10) = some (.ptr t 10) := tix (c := 10) (by omega)
     have htl10 := fun c => (Jw (P := Tryz.prog) (st := st') (c := c) (T := 40) (a := .ptr t 10)).trans (tld hT' (c := 10) (by omega))
     have hti92 : Jo Tryz.prog 151 (.ptr t 0) (.int .u8 92) = some (.ptr t 92) := tix (c := 92) (by omega)
     have htl92 := fun c => (Jw (P := Tryz.prog) (st := st') (c := c) (T := 40) (a := .ptr t 92)).trans (tld hT' (c := 92) (by omega))
     have hrp10 : Jem b1 b2 10 = .ms b1 0 2 1 none := rfl
     have hrp92 : Jem b1 b2 92 = .ms b2 0 2 1 none := rfl
     rw [hrp10] at htl10
     rw [hrp92] at htl92
     have hl2 : ∀ b, Jab Tryz.prog 40 (.ms b 0 2 1 none) = some (.int .i64 2) := fun b => by simp only [Jab, u91]; rfl
     have hx10 : Jao Tryz.prog 9 (.str (S.ofList [10])) (.int .i64 0) = some (.int .u8 10) := by simp only [Jao, Tryz.underlying9]; rfl
     have hx92 : Jao Tryz.prog 9 (.str (S.ofList [92])) (.int .i64 0) = some (.int .u8 92) := by simp only [Jao, Tryz.underlying9]; rfl
     have vqm : ∀ b, veq 1000000000 (.ms b 0 2 1 none) (.ms b 0 2 1 none) = true := fun b => Qz _ (Nat.le_of_ble_eq_true rfl)
     have k14 : Keep st { ctr := st'.ctr + 14, box := st'.box } := hk.tick 14
     by_cases hi0 : i = 0
     ·
      subst hi0
      have hxi : Jo Tryz.prog 22 (.ms a 0 2 1 (some 2)) (.int .i64 0) = some (adr 1 (.ms a 0 2 1 (some 2)) 0) := hvw.ix Tryz.underlying22 z9 (k := .i64) (a := 0) (by omega) (by simp)
      have hxd : Qe Tryz.prog st' 9 (adr 1 (.ms a 0 2 1 (some 2)) 0) = some (.str (S.ofList [10])) := hvw.ld z9 a9 (i := 0) (by simp)
      obtain ⟨v, q1, hcc, rfl, hq1⟩ := Says.use (Jgu gl st' s (S.ofList [10]) rfl)
      rw [show q1 = st' from hq1, cn1, hc1] at hcc
      clear hq1
      refine Kk_ (Ks_ ?_)
      refine Kb_ fun K3 gn3 gx3 go3 => ?_
      refine Ks_ (Ka_ (gs := [none, none, none]) fun K1 gK => ?_)
      simp (disch := omega) [hF, hlt, hxi, hxd]
      refine gK _ _ (Ks_ (Ka_ (gs := [none, none, none, none]) fun K1 gK => ?_))
      simp (disch := omega) [hF, hcc]
      refine gK _ _ (Ks_ (Ka_ (gs := [none, none]) fun K1 gK => ?_))
      simp (disch := omega) []
      refine gK _ _ ?_
      by_cases hz : c1 = 0
      ·
       refine Kf_ (by simp (disch := omega) [hz]) (Kk_ (gn3 _ _ (Ka_ (gs := [none, none]) fun K1 gK => ?_)))
       simp (disch := omega) [hF, hz]
       refine gK _ _ ?_
       refine gk2 (1) _ _ (by omega) ⟨by simp [Fs, hF, hz], by omega, hk⟩
      ·
       refine Kt_ (by simp (disch := omega) [hz]) (Ks_ (Ki_ (b := [0, 0, 0, 0, 8, 4, 36, 124, 252, 508, 1020, 2046, 4095, 8191]) fun K1 gK => ?_))
       simp (disch := omega) [hF, ft0, hti10, htl10, hl2, hx10, vqm, Qs, hz]
       refine gK _ _ (Ka_ (gs := [none]) fun K1 gK => ?_)
       simp (disch := omega) []
       refine gK _ _ (gn3 _ _ (Ka_ (gs := [none, none]) fun K1 gK => ?_))
       simp (disch := omega) [hF]
       refine gK _ _ ?_
       refine gk2 (1) _ _ (by omega) ⟨by simp [Fs, hF, hz], by omega, k14⟩
     ·
      have hi1 : i = 1 := by omega
      subst hi1
      have hxi : Jo Tryz.prog 22 (.ms a 0 2 1 (some 2)) (.int .i64 1) = some (adr 1 (.ms a 0 2 1 (some 2)) 1) := hvw.ix Tryz.underlying22 z9 (k := .i64) (a := 1) (by omega) (by simp)
      have hxd : Qe Tryz.prog st' 9 (adr 1 (.ms a 0 2 1 (some 2)) 1) = some (.str (S.ofList [92])) := hvw.ld z9 a9 (i := 1) (by simp)
      obtain ⟨v, q1, hcc, rfl, hq1⟩ := Says.use (Jgu gl st' s (S.ofList [92]) rfl)
      rw [show q1 = st' from hq1, cn2, hc2] at hcc
      clear hq1
      refine Kk_ (Ks_ ?_)
      refine Kb_ fun K4 gn4 gx4 go4 => ?_
      refine Ks_ (Ka_ (gs := [none, none, none]) fun K1 gK => ?_)
      simp (disch := omega) [hF, hlt, hxi, hxd]
      refine gK _ _ (Ks_ (Ka_ (gs := [none, none, none, none]) fun K1 gK => ?_))
      simp (disch := omega) [hF, hcc]
      refine gK _ _ (Ks_ (Ka_ (gs := [none, none]) fun K1 gK => ?_))
      simp (disch := omega) []
      refine gK _ _ ?_
      by_cases hz : c2 = 0
      ·
       refine Kf_ (by simp (disch := omega) [hz]) (Kk_ (gn4 _ _ (Ka_ (gs := [none, none]) fun K1 gK => ?_)))
       simp (disch := omega) [hF, hz]
       refine gK _ _ ?_
       refine gk2 (2) _ _ (by omega) ⟨by simp [Fs, hF, hz], by omega, hk⟩
      ·
       refine Kt_ (by simp (disch := omega) [hz]) (Ks_ (Ki_ (b := [0, 0, 0, 0, 8, 4, 36, 124, 252, 508, 1020, 2046, 4095, 8191]) fun K1 gK => ?_))
       simp (disch := omega) [hF, ft0, hti92, htl92, hl2, hx92, vqm, Qs, hz]
       refine gK _ _ (Ka_ (gs := [none]) fun K1 gK => ?_)
       simp (disch := omega) []
       refine gK _ _ (gn4 _ _ (Ka_ (gs := [none, none]) fun K1 gK => ?_))
       simp (disch := omega) [hF]
       refine gK _ _ ?_
       refine gk2 (2) _ _ (by omega) ⟨by simp [Fs, hF, hz], by omega, k14⟩
    ·
     refine Kf_ (by simp (disch := omega) [hlt]) ?_
     exact Kx_ (gx2 _ _ ⟨by (have hi2 : i = 2 := (by omega); subst hi2; rw [hhas, hlen]; simp [Fs, hF]),  hk⟩)
   ·as_aux_lemma =>
    clear hF
    rintro fr st' ⟨hF, hk⟩
    simp only [Fs] at hF
    exact gm1 _ _ ⟨by simp [Fs, hF], hk⟩
  ·
   refine Kf_ (by simp (disch := omega) [h16]) (Ks_ (Ka_ (gs := [none]) fun K1 gK => ?_))
   simp (disch := omega) [h16]
   refine gK _ _ ?_
   refine Kl_ (s.n) (fun j fr st' => Fs gl [(0, .ptr t 0), (1, .str s), (5, .int .i64 ((s.n + ((esc (s.toList.take j)).length - j) : Nat) : Int)), (6, .bool (JcA (s.toList.take j))), (10, .int .i64 (j : Int))] fr ∧ j ≤ s.n ∧ st = st') (0) (fun fr st' => Fs gl [(0, .ptr t 0), (1, .str s), (5, .int .i64 ((esc s.toList).length : Int)), (6, .bool (JcA s.toList))] fr ∧ st = st') ?_ ?_ ?_ ?_
   ·exact ⟨by simp [Fs, hF, esc, JcA],  Nat.zero_le _, rfl⟩
   ·rintro j fr st' ⟨_, hj, rfl⟩
    omega
   ·as_aux_lemma =>
    clear hF
    rintro j fr st' ⟨hF, hj, rfl⟩ K5 gk5 gx5 go5
    simp only [Fs] at hF
    refine Ks_ (Ks_ (Ka_ (gs := [none, none, none, none]) fun K1 gK => ?_))
    simp (disch := omega) [hF, ls]
    refine gK _ _ ?_
    by_cases hlt : j < s.n
    ·
     refine Kt_ (by simp (disch := omega) [hlt]) ?_
     have hix := Qw (P := Tryz.prog) (k := .i64) Tryz.underlying9 hlt
     have hcl := S.at_lt s j
     have hti := tix (t := t) hcl
     have htl := tld hT hcl
     have hht := Jm1 hlt
     have het := Jgv hlt
     have hej : j ≤ (esc (s.toList.take j)).length := by
      rw [Jel, List.length_take, S.len]; omega
     have hej2 := JbC (s.toList.take j)
     rw [List.length_take, S.len] at hej2
     by_cases h10 : s.at j = 10
     ·
      have hrp : Jem b1 b2 10 = .ms b1 0 2 1 none := rfl
      have hl2 : Jab Tryz.prog 40 (.ms b1 0 2 1 none) = some (.int .i64 2) := by simp only [Jab, u91]; rfl
      rw [h10, Jkg] at het
      have hti10 : Jo Tryz.prog 151 (.ptr t 0) (.int .u8 10) = some (.ptr t 10) := tix (c := 10) (by omega)
      have htl10 := tld hT (c := 10) (by omega)
      refine Kk_ (Ks_ ?_)
      refine Kb_ fun K6 gn6 gx6 go6 => ?_
      refine Ks_ (Ka_ (gs := [none, none, none, none]) fun K1 gK => ?_)
      simp (disch := omega) [hF, hlt, hix, h10]
      refine gK _ _ (Ks_ (Ka_ (gs := [none, none, none, none, none, none, none]) fun K1 gK => ?_))
      simp (disch := omega) [hF, ft0, hti10, htl10, hrp, JaW]
      refine gK _ _ (Kt_ (by simp (disch := omega) []) (Ks_ (Ka_ (gs := [none, none, none, none, none, none, none, none, none, none, none]) fun K1 gK => ?_)))
      simp (disch := omega) [hF, ft0, hti10, htl10, hrp, hl2]
      refine gK _ _ (Ka_ (gs := [none]) fun K1 gK => ?_)
      simp (disch := omega) []
      refine gK _ _ (gn6 _ _ (Ka_ (gs := [none, none, none]) fun K1 gK => ?_))
      simp (disch := omega) [hF]
      refine gK _ _ ?_
      refine gk5 (j + 1) _ _ (by omega) ⟨by (rw [hht, het]; simp [Fs, hF, h10]; omega),  by omega, rfl⟩
     ·
      by_cases h92 : s.at j = 92
      ·
       have hrp : Jem b1 b2 92 = .ms b2 0 2 1 none := rfl
       have hl2 : Jab Tryz.prog 40 (.ms b2 0 2 1 none) = some (.int .i64 2) := by simp only [Jab, u91]; rfl
       rw [h92, Jkh] at het
       have hti92 : Jo Tryz.prog 151 (.ptr t 0) (.int .u8 92) = some (.ptr t 92) := tix (c := 92) (by omega)
       have htl92 := tld hT (c := 92) (by omega)
       refine Kk_ (Ks_ ?_)
       refine Kb_ fun K7 gn7 gx7 go7 => ?_
       refine Ks_ (Ka_ (gs := [none, none, none, none]) fun K1 gK => ?_)
       simp (disch := omega) [hF, hlt, hix, h92]
       refine gK _ _ (Ks_ (Ka_ (gs := [none, none, none, none, none, none, none]) fun K1 gK => ?_))
       simp (disch := omega) [hF, ft0, hti92, htl92, hrp, JaW]
       refine gK _ _ (Kt_ (by simp (disch := omega) []) (Ks_ (Ka_ (gs := [none, none, none, none, none, none, none, none, none, none, none]) fun K1 gK => ?_)))
       simp (disch := omega) [hF, ft0, hti92, htl92, hrp, hl2]
       refine gK _ _ (Ka_ (gs := [none]) fun K1 gK => ?_)
       simp (disch := omega) []
       refine gK _ _ (gn7 _ _ (Ka_ (gs := [none, none, none]) fun K1 gK => ?_))
       simp (disch := omega) [hF]
       refine gK _ _ ?_
       refine gk5 (j + 1) _ _ (by omega) ⟨by (rw [hht, het]; simp [Fs, hF, h92]; omega),  by omega, rfl⟩
      ·
       have hrp : Jem b1 b2 (s.at j) = .nils := by unfold Jem; rw [if_neg h10, if_neg h92]
       rw [Jez hcl h10 h92] at het
       refine Kk_ (Ks_ ?_)
       refine Kb_ fun K8 gn8 gx8 go8 => ?_
       refine Ks_ (Ka_ (gs := [none, none, none, none]) fun K1 gK => ?_)
       simp (disch := omega) [hF, hlt, hix]
       refine gK _ _ (Ks_ (Ka_ (gs := [none, none, none, none, none, none, none]) fun K1 gK => ?_))
       simp (disch := omega) [hF, ft0, hti, htl, hrp, JbE]
       refine gK _ _ (Kf_ (by simp (disch := omega) []) (Kk_ (gn8 _ _ (Ka_ (gs := [none, none, none]) fun K1 gK => ?_))))
       simp (disch := omega) [hF]
       refine gK _ _ ?_
       refine gk5 (j + 1) _ _ (by omega) ⟨by (rw [hht, het]; simp [Fs, hF, h10, h92]),  by omega, rfl⟩
    ·
     refine Kf_ (by simp (disch := omega) [hlt]) ?_
     exact Kx_ (gx5 _ _ ⟨by (rw [List.take_of_length_le (by rw [S.len]; omega)] at hF; simp [Fs, hF]; have hec := Jel s.toList; rw [S.len] at hec; omega),  rfl⟩)
   ·as_aux_lemma =>
    clear hF
    rintro fr st' ⟨hF, rfl⟩
    simp only [Fs] at hF
    exact gm1 _ _ ⟨by simp [Fs, hF], .refl _⟩
 ·as_aux_lemma =>
  clear hF
  rintro fr st' ⟨hF, hk⟩
  simp only [Fs] at hF
  generalize hA : JcA s.toList = A at hF
  have hec := Jel s.toList
  have hel := JbC s.toList
  rw [S.len] at hel
  obtain ⟨N, hN⟩ : ∃ N, (esc s.toList).length = N := ⟨_, rfl⟩
  rw [hN] at hF hel
  obtain ⟨i5', hi5, hz5, hz5'⟩ := i5
  have hvm : Jgo Tryz.prog st' 40 (.int .i64 (N : Int)) (.int .i64 (N : Int)) = some (.ms st'.ctr 0 N 1 (some N), { ctr := st'.ctr + 1, box := st'.box.put st'.ctr (.cells (List.replicate N (.int .u8 0)) 5 true (some 0)) }) :=
   Jg9 u91 hi5 zs5 hz5 rfl (Nat.le_trans (Nat.mul_le_mul hz5' (show N ≤ 200000 by omega)) (by simp [JA])) (by simp [JA]; omega)
  obtain ⟨q1, hq1⟩ : ∃ q : St, q = { ctr := st'.ctr + 1, box := st'.box.put st'.ctr (.cells (List.replicate N (.int .u8 0)) 5 true (some 0)) } := ⟨_, rfl⟩
  rw [← hq1] at hvm
  have kq : Keep st' q1 := by rw [hq1]; exact (Keep.refl st').new _
  have cq : q1.ctr = st'.ctr + 1 := by rw [hq1]
  have gq : q1.box.get st'.ctr = some (.cells (Jcl N []) 5 true (some 0)) := by rw [hq1]; simp [Tr.get_put, Jcl, JQ]
  have cst := hk.ctr
  obtain ⟨id, hid⟩ : ∃ id, st'.ctr = id := ⟨_, rfl⟩
  rw [hid] at hvm gq cq cst
  refine Ks_ (Ks_ (Ka_ (gs := [none, none]) fun K1 gK => ?_))
  simp (disch := omega) [hF]
  refine gK _ _ ?_
  cases A with
  | true =>
   refine Kf_ (by simp (disch := omega) []) (Kk_ (Ks_ (Ka_ (gs := [none, none, none]) fun K1 gK => ?_)))
   simp (disch := omega) [hF, hvm]
   refine gK _ _ (Ks_ (Ka_ (gs := [none]) fun K1 gK => ?_))
   simp (disch := omega) []
   refine gK _ _ (Ks_ (Ks_ (Ka_ (gs := [none]) fun K1 gK => ?_)))
   simp (disch := omega) []
   refine gK _ _ ?_
   refine Kl_ (s.n) (fun j fr st' => Fs gl [(0, .ptr t 0), (1, .str s), (12, .ms id 0 N 1 (some N)), (13, .int .i64 ((esc (s.toList.take j)).length : Int)), (14, .int .i64 (j : Int))] fr ∧ j ≤ s.n ∧ Keep st st' ∧ id < st'.ctr ∧ st'.box.get id = some (.cells (Jcl N (esc (s.toList.take j))) 5 true (some 0))) (0) (fun fr st' => Fs gl [(12, .ms id 0 N 1 (some N))] fr ∧ Keep st st' ∧ id < st'.ctr ∧ st'.box.get id = some (.cells (Jcl N (esc s.toList)) 5 true (some 0))) ?_ ?_ ?_ ?_
   ·exact ⟨by simp [Fs, hF, esc],  Nat.zero_le _, hk.trans kq, by omega, by simpa [esc] using gq⟩
   ·rintro j fr st' ⟨_, hj, hk, hic, hbuf⟩
    omega
   ·as_aux_lemma =>
    clear hF
    rintro j fr st' ⟨hF, hj, hk, hic, hbuf⟩ K9 gk9 gx9 go9
    simp only [Fs] at hF
    refine Ks_ (Ks_ (Ka_ (gs := [none, none, none, none]) fun K1 gK => ?_))
    simp (disch := omega) [hF, ls]
    refine gK _ _ ?_
    by_cases hlt : j < s.n
    ·
     refine Kt_ (by simp (disch := omega) [hlt]) ?_
     have hix := Qw (P := Tryz.prog) (k := .i64) Tryz.underlying9 hlt
     have hcl := S.at_lt s j
     have hti := tix (t := t) hcl
     have hT' := hT.keep hk
     have htl := tld hT' hcl
     have het := Jgv hlt
     have hroom := Jm2 hlt
     rw [hN] at hroom
     generalize esc (s.toList.take j) = acc at hF hbuf het hroom
     by_cases h10 : s.at j = 10
     ·
      have hti10 : Jo Tryz.prog 151 (.ptr t 0) (.int .u8 10) = some (.ptr t 10) := tix (c := 10) (by omega)
      have htl10 := fun c => (Jw (P := Tryz.prog) (st := st') (c := c) (T := 40) (a := .ptr t 10)).trans (tld hT' (c := 10) (by omega))
      have htl10' := tld hT' (c := 10) (by omega)
      rw [show Jem b1 b2 10 = .ms b1 0 2 1 none from rfl] at htl10 htl10'
      rw [h10, Jkg] at het hroom
      have hbuf2 : ({ ctr := st'.ctr + 13, box := st'.box } : St).box.get id = some (.cells (Jcl N acc) 5 true (some 0)) := hbuf
      have hcpy := Jhk (r := [92, 110]) hbuf2 (show _ = some (Bx.cells (JQ [92, 110]) 5 false none) from hT'.b1b) hroom (by simp)
      have hbs := Jhl (id := id) (j := acc.length) (N := N) (by simp at hroom; omega)
      have hcpy2 : Jc5 Tryz.prog { ctr := st'.ctr + 13, box := st'.box } 40 (.ms id acc.length (N - acc.length) 1 (some (N - acc.length))) (.ms b1 0 2 1 none) = some (.int .i64 2, ({ ctr := st'.ctr + 13, box := st'.box } : St).put id (.cells (Jcl N (acc ++ [92, 110])) 5 true (some 0))) := hcpy
      have vqm : veq 1000000000 (.ms b1 0 2 1 none) (.ms b1 0 2 1 none) = true := Qz _ (Nat.le_of_ble_eq_true rfl)
      refine Kk_ (Ks_ ?_)
      refine Kb_ fun K10 gn10 gx10 go10 => ?_
      refine Ks_ (Ka_ (gs := [none, none, none, none]) fun K1 gK => ?_)
      simp (disch := omega) [hF, hlt, hix, h10]
      refine gK _ _ (Ks_ (Ka_ (gs := [none, none, none, none, none, none, none]) fun K1 gK => ?_))
      simp (disch := omega) [hF, ft0, hti10, htl10', JaW]
      refine gK _ _ (Kt_ (by simp (disch := omega) []) (Kj_ (b := [0, 0, 0, 6, 0, 0, 16, 80, 240, 496, 1022, 2047, 4095]) (rs := [(1, 10), (0, 1), (11, 2)]) fun K1 gK => ?_))
      simp (disch := omega) [hF, ft0, hti10, htl10, hbs, hcpy2, vqm]
      refine gK _ _ (gn10 _ _ (Ka_ (gs := [none, none, none]) fun K1 gK => ?_))
      simp (disch := omega) [hF]
      refine gK _ _ ?_
      refine gk9 (j + 1) _ _ (by omega) ⟨by (simp only [het]; simp [Fs, hF]),  by omega, (hk.tick 13).put' (by omega) _, by (show id < st'.ctr + 13; omega), by rw [het, put_get, if_pos rfl]⟩
     ·
      by_cases h92 : s.at j = 92
      ·
       have hti92 : Jo Tryz.prog 151 (.ptr t 0) (.int .u8 92) = some (.ptr t 92) := tix (c := 92) (by omega)
       have htl92 := fun c => (Jw (P := Tryz.prog) (st := st') (c := c) (T := 40) (a := .ptr t 92)).trans (tld hT' (c := 92) (by omega))
       have htl92' := tld hT' (c := 92) (by omega)
       rw [show Jem b1 b2 92 = .ms b2 0 2 1 none from rfl] at htl92 htl92'
       rw [h92, Jkh] at het hroom
       have hbuf2 : ({ ctr := st'.ctr + 13, box := st'.box } : St).box.get id = some (.cells (Jcl N acc) 5 true (some 0)) := hbuf
       have hcpy := Jhk (r := [92, 92]) hbuf2 (show _ = some (Bx.cells (JQ [92, 92]) 5 false none) from hT'.b2b) hroom (by simp)
       have hbs := Jhl (id := id) (j := acc.length) (N := N) (by simp at hroom; omega)
       have hcpy2 : Jc5 Tryz.prog { ctr := st'.ctr + 13, box := st'.box } 40 (.ms id acc.length (N - acc.length) 1 (some (N - acc.length))) (.ms b2 0 2 1 none) = some (.int .i64 2, ({ ctr := st'.ctr + 13, box := st'.box } : St).put id (.cells (Jcl N (acc ++ [92, 92])) 5 true (some 0))) := hcpy
       have vqm : veq 1000000000 (.ms b2 0 2 1 none) (.ms b2 0 2 1 none) = true := Qz _ (Nat.le_of_ble_eq_true rfl)
       refine Kk_ (Ks_ ?_)
       refine Kb_ fun K11 gn11 gx11 go11 => ?_
       refine Ks_ (Ka_ (gs := [none, none, none, none]) fun K1 gK => ?_)
       simp (disch := omega) [hF, hlt, hix, h92]
       refine gK _ _ (Ks_ (Ka_ (gs := [none, none, none, none, none, none, none]) fun K1 gK => ?_))
       simp (disch := omega) [hF, ft0, hti92, htl92', JaW]
       refine gK _ _ (Kt_ (by simp (disch := omega) []) (Kj_ (b := [0, 0, 0, 6, 0, 0, 16, 80, 240, 496, 1022, 2047, 4095]) (rs := [(1, 10), (0, 1), (11, 2)]) fun K1 gK => ?_))
       simp (disch := omega) [hF, ft0, hti92, htl92, hbs, hcpy2, vqm]
       refine gK _ _ (gn11 _ _ (Ka_ (gs := [none, none, none]) fun K1 gK => ?_))
       simp (disch := omega) [hF]
       refine gK _ _ ?_
       refine gk9 (j + 1) _ _ (by omega) ⟨by (simp only [het]; simp [Fs, hF]),  by omega, (hk.tick 13).put' (by omega) _, by (show id < st'.ctr + 13; omega), by rw [het, put_get, if_pos rfl]⟩
      ·
       have hrp : Jem b1 b2 (s.at j) = .nils := by unfold Jem; rw [if_neg h10, if_neg h92]
       rw [Jez hcl h10 h92] at hroom het
       have hst := JjU hcl hbuf (by simp at hroom; omega)
       have hbx : Jo Tryz.prog 40 (.ms id 0 N 1 (some N)) (.int .i64 (acc.length : Int)) = some (.ptr id acc.length) := by
        have := Jdv (P := Tryz.prog) (t := 40) (id := id) (off := 0) (n := N) (z := 1) (i := acc.length) (cap := some N) (k := .i64) u91 z5 (by simp at hroom; omega)
        simpa using this
       refine Kk_ (Ks_ ?_)
       refine Kb_ fun K12 gn12 gx12 go12 => ?_
       refine Ks_ (Ka_ (gs := [none, none, none, none]) fun K1 gK => ?_)
       simp (disch := omega) [hF, hlt, hix]
       refine gK _ _ (Ks_ (Ka_ (gs := [none, none, none, none, none, none, none]) fun K1 gK => ?_))
       simp (disch := omega) [hF, ft0, hti, htl, hrp, JbE]
       refine gK _ _ (Kf_ (by simp (disch := omega) []) (Ks_ (Ka_ (gs := [none, none, none, none, none]) fun K1 gK => ?_)))
       simp (disch := omega) [hF, hst, hbx]
       refine gK _ _ (Ka_ (gs := [none, none, none]) fun K1 gK => ?_)
       simp (disch := omega) [hF]
       refine gK _ _ (gn12 _ _ (Ka_ (gs := [none, none, none]) fun K1 gK => ?_))
       simp (disch := omega) [hF]
       refine gK _ _ ?_
       refine gk9 (j + 1) _ _ (by omega) ⟨by (simp only [het]; simp [Fs, hF]),  by omega, hk.put' (by omega) _, hic, by rw [het, put_get, if_pos rfl]⟩
    ·
     refine Kf_ (by simp (disch := omega) [hlt]) ?_
     exact Kx_ (gx9 _ _ ⟨by simp [Fs, hF, hlt], hk, hic, by rw [List.take_of_length_le (by rw [S.len]; omega)] at hbuf; exact hbuf⟩)
   ·as_aux_lemma =>
    clear hF
    rintro fr st' ⟨hF, hk, hic, hbuf⟩
    simp only [Fs] at hF
    have hcv : QJ Tryz.prog st' 40 9 (.ms id 0 N 1 (some N)) = some (.str (S.ofList (esc s.toList))) := by
     rw [← hN]
     rw [← hN] at hbuf
     exact Jln hbuf
    refine Ks_ (Ka_ (gs := [none, none, none]) fun K1 gK => ?_)
    simp (disch := omega) [hF, hcv]
    refine gK _ _ (Kq_ (gr _ _ ?_))
    simp [JC, Tryz.f178, hF]
    refine hR _ _ ?_
    exact ⟨⟨_, rfl, S.toList_ofList _⟩, hk⟩
  | false =>
   refine Kt_ (by simp (disch := omega) []) (Ks_ (Ka_ (gs := [none, none]) fun K1 gK => ?_))
   simp (disch := omega) [hF]
   refine gK _ _ (Kq_ (gr _ _ ?_))
   simp [JC, Tryz.f178, hF]
   refine hR _ _ ?_
   exact ⟨⟨s, rfl, (JiN hA).symm⟩, hk⟩
end Go.Vm
namespace Go.Vm
open Go Go.Proofs Go.Pa
attribute [local simp] OkG Qh Qp OkD JY Qr JI Jm Jq vop Js JB ev evs toV Jl Fr.dsTo Fr.glTo Fr.toNone Ji Jj Jk Qk QL Jd JD Jv V.undef JW JM J7 JX J3 J9 J8 Qa JH J4 J5 JZ JO Qb Jt Ju Jw Jz JE Jr JL JN JK Qq JV JaI QI
def oldsV : List V := [.str (S.ofList [92]), .str (S.ofList [92, 92]), .str (S.ofList [10]), .str (S.ofList [92, 110])]
structure Raw (st : St) (r o : Nat) : Prop where
 rb : st.box.get r = some (.cells [.int .u32 0, .int .i32 0, .int .u32 0, .nili, .ms o 0 4 1 none] 109 true (some 0))
 ob : st.box.get o = some (.cells oldsV 9 false (some 0))
 rlt : r < st.ctr
 olt : o < st.ctr
 ne : r ≠ o
structure Bui (st : St) (r t a b1 b2 : Nat) : Prop where
 rb : st.box.get r = some (.cells [.int .u32 1, .int .i32 0, .int .u32 0, .iface 154 (.ptr t 0), .nils] 109 true (some 0))
 rlt : r < st.ctr
 tb : RBt st t a b1 b2
theorem fo1 (r : Nat) : QK Tryz.prog 105 (.ptr r 0) 1 = some (.ptr r 0) := by kernel_rfl
theorem fo2 (r : Nat) : QK Tryz.prog 99 (.ptr r 0) 1 = some (.ptr r 0) := by kernel_rfl
theorem fo3 (r : Nat) : QK Tryz.prog 109 (.ptr r 0) 0 = some (.ptr r 0) := by kernel_rfl
theorem fo4 (r : Nat) : QK Tryz.prog 109 (.ptr r 0) 1 = some (.ptr r 3) := by kernel_rfl
theorem z76 : Qj Tryz.prog 107 = some 1 := by kernel_rfl
theorem a76 : Jag Tryz.prog 107 = some false := by kernel_rfl
theorem Jo7 (kk : Bool) (T : TypeId) : Jn Tryz.prog kk .neq T (.int .u32 1) (.int .u32 0) = some (.bool true) := by rw [Jf3]; rfl
theorem JfC : JfA Tryz.prog 154 "Replace" = some 178 := by kernel_rfl
theorem Jo8 [Memo] {gl : Gl} {st : St} {r : Nat} {n : Int} {l : List V} {e : TypeId} {fl : Bool} {fz : Option Nat} (hb : st.box.get r = some (.cells (V.int .u32 n :: l) e fl fz)) : JaM Tryz.prog (ihCall (W Tryz.prog)) gl 113 [.ptr r 0] st = .val (.int .u32 n) st := by
 have hn : Extern.findNext Tryz.f113 = none := by kernel_rfl
 have hx : JaA Tryz.prog Tryz.f113 [.ptr r 0] = none := by
  simp only [JaA, hn]
  cases Extern.find Tryz.f113 with
  | none => rfl
  | some e => rfl
 have hd : Jhh Tryz.prog Tryz.f113 [.ptr r 0] st = some (.int .u32 n, st) := by
  show (match st.box.get r with
   | some (Bx.cells cs _ _ _) => (match cs[0]? with
    | some (V.int .u32 n) => some (V.int .u32 n, st)
    | _ => none)
   | _ => none) = _
  rw [hb]
  rfl
 simp only [JaM, Tryz.func113, show (Tryz.f113.name == "runtime.NumGoroutine") = false from by kernel_rfl, show Tryz.f113.body = none from rfl, hx, hn, hd]
class NO [Memo] : Prop where
 done : ∀ (st : St) (r : Nat) (g : V) (l : List V), st.box.get r = some (.cells (V.int .u32 1 :: l) 109 true (some 0)) → (Memo.look 77).run [.ptr r 0, g] st = none
 fresh : ∀ (st : St) (r o : Nat), Raw st r o → ∃ st' t a b1 b2, (Memo.look 77).run [.ptr r 0, .fn 78 [.ptr r 0] []] st = some (.tup [], st') ∧ Bui st' r t a b1 b2 ∧ st.ctr ≤ st'.ctr ∧ (∀ i, i < st.ctr → i ≠ r → st'.box.get i = st.box.get i) ∧ st.ctr ≤ t ∧ st.ctr ≤ a ∧ st.ctr ≤ b1 ∧ st.ctr ≤ b2
theorem Jm3 {st : St} {x : V} (hx : Jbv st x oldsV) : QE Tryz.prog st 22 .nils x = some (.ms st.ctr 0 4 1 none, st.new (.cells oldsV 9 false (some 0))) := by
 obtain ⟨i, hi, h1, h2⟩ := i9
 have q1 : Nat.ble ((0 + 4) * i.bytes) JA = true := Nat.ble_eq_true_of_le (Nat.le_trans (Nat.mul_le_mul (show 0 + 4 ≤ 4 by omega) h2) (by simp [JA]))
 have hsrc : Jad st 1 x = some (oldsV, 4) := hx.1
 simp only [QE, Tryz.underlying22, hi, h1, zs9, hsrc, hx.2, JP, show Nat.beq 1 0 = false from rfl, q1]
 rfl
theorem Jm4 (o : Nat) : Jb7 Tryz.prog 109 [(2, .ms o 0 4 1 none)] = some (.agg [.int .u32 0, .int .i32 0, .int .u32 0, .nili, .ms o 0 4 1 none]) := by kernel_rfl
variable [Memo] [NY] [NZ] [NO]
omit [NZ] [NO] in
set_option maxRecDepth 100000 in
theorem Jn8 (gl : Gl) (st : St) (r : Nat) (l : List V) (e : TypeId) (fl : Bool) (fz : Option Nat) (hb : st.box.get r = some (.cells (V.int .u32 1 :: l) e fl fz)) :
  Says Tryz.prog gl 95 [.ptr r 0] st (fun v st' => v = .bool true ∧ Sm st st') := by
 refine JS (NY.no _ rfl rfl rfl _ _) Tryz.func95 rfl (by kernel_rfl) fun R hR K gr gn => ?_
 generalize hfr : Jx gl [.ptr r 0] = fr
 have hF : Fs gl [(0, .ptr r 0)] fr := by subst hfr; simp [Fs]
 simp only [Fs] at hF
 clear hfr
 have hd := Jo8 (gl := gl) hb
 refine Ks_ (Ka_ (gs := [none]) fun K1 gK => ?_)
 simp (disch := omega) []
 refine gK _ _ (Ks_ (Ka_ (gs := [none, none, none, none, none, none]) fun K1 gK => ?_))
 simp (disch := omega) [hF, fo2, hd, Jo7]
 refine gK _ _ (Kq_ (gr _ _ ?_))
 simp [JC, Tryz.f95, hF]
 refine hR _ _ ?_
 exact ⟨rfl, rfl⟩
omit [NZ] in
set_option maxRecDepth 100000 in
theorem Jn9 (gl : Gl) (st : St) (r : Nat) (g : V) (l : List V) (hb : st.box.get r = some (.cells (V.int .u32 1 :: l) 109 true (some 0))) :
  Says Tryz.prog gl 77 [.ptr r 0, g] st (fun _v st' => Sm st st') := by
 refine JS (NO.done st r g l hb) Tryz.func77 rfl (by kernel_rfl) fun R hR K gr gn => ?_
 generalize hfr : Jx gl [.ptr r 0, g] = fr
 have hF : Fs gl [(0, .ptr r 0), (1, g)] fr := by subst hfr; simp [Fs]
 simp only [Fs] at hF
 clear hfr
 obtain ⟨v, q1, hc, rfl, hq⟩ := Says.use (Jn8 gl st r l 109 true (some 0) hb)
 rw [show q1 = st from hq] at hc
 refine Ks_ (Ka_ (gs := [none, none, none, none, none]) fun K1 gK => ?_)
 simp (disch := omega) [hF, fo1, hc]
 refine gK _ _ (Kf_ (by simp (disch := omega) []) (Kk_ (gn _ _ ?_)))
 simp [JC, Tryz.f77, hF]
 refine hR _ _ ?_
 exact rfl
omit [NZ] [NO] in
set_option maxRecDepth 100000 in
theorem Jlo (gl : Gl) (st : St) (id : Nat) (hid : id < st.ctr) (hb : st.box.get id = some (.cells oldsV 9 true (some 0))) :
  Says Tryz.prog gl 65 [.ms id 0 4 1 (some 4)] st (fun v st' => v = .ptr (st.ctr + 1) 0 ∧ Raw st' (st.ctr + 1) st.ctr ∧ Keep st st') := by
 refine JS (NY.no _ rfl rfl rfl _ _) Tryz.func65 rfl (by kernel_rfl) fun R hR K gr gn => ?_
 generalize hfr : Jx gl [.ms id 0 4 1 (some 4)] = fr
 have hF : Fs gl [(0, .ms id 0 4 1 (some 4))] fr := by subst hfr; simp [Fs]
 simp only [Fs] at hF
 clear hfr
 have ll : Jab Tryz.prog 22 (.ms id 0 4 1 (some 4)) = some (.int .i64 4) := by simp only [Jab, Tryz.underlying22]; rfl
 have hrem : ∀ kk, Jn Tryz.prog kk .rem 3 (.int .i64 4) (.int .i64 2) = some (.int .i64 0) := fun kk => by rw [JfZ (by decide)]; rfl
 have hsrc : Jbv st (.ms id 0 4 1 (some 4)) oldsV := (Mine.mk (lo := 0) (e := 9) (Nat.zero_le _) hid hb rfl).src rfl
 have ha := Jm3 hsrc
 have k1 := (Keep.refl st).new' (.cells oldsV 9 false (some 0))
 have o1 : (st.new (.cells oldsV 9 false (some 0))).box.get st.ctr = some (.cells oldsV 9 false (some 0)) := by rw [QC, if_pos rfl]
 have c1 : (st.new (.cells oldsV 9 false (some 0))).ctr = st.ctr + 1 := rfl
 generalize st.new (.cells oldsV 9 false (some 0)) = q1 at ha k1 o1 c1
 have hf : ({ ctr := q1.ctr + 1, box := q1.box.put q1.ctr (.cells [.int .u32 0, .int .i32 0, .int .u32 0, .nili, .ms st.ctr 0 4 1 none] 109 true (some 0)) } : St) = q1.new (.cells [.int .u32 0, .int .i32 0, .int .u32 0, .nili, .ms st.ctr 0 4 1 none] 109 true (some 0)) := rfl
 refine Ks_ (Ka_ (gs := [none]) fun K1 gK => ?_)
 simp (disch := omega) []
 refine gK _ _ (Ks_ (Ks_ (Ka_ (gs := [none, none, none, none]) fun K1 gK => ?_)))
 simp (disch := omega) [hF, ll, hrem]
 refine gK _ _ (Kf_ (by simp (disch := omega) []) (Kk_ (Ks_ (Ka_ (gs := [none, none, none, none, none]) fun K1 gK => ?_))))
 simp (disch := omega) [hF, ha, Jm4, hf, Jc, Qn, Tryz.underlying22]
 refine gK _ _ (Kq_ (gr _ _ ?_))
 simp [JC, Tryz.f65, hF]
 refine hR _ _ ?_
 refine ⟨by rw [c1], ⟨?_, ?_, ?_, ?_, by omega⟩, k1.new' _⟩
 ·rw [QC, if_pos c1.symm]
 ·rw [QC, if_neg (by omega)]; exact o1
 ·rw [JbP]; omega
 ·rw [JbP]; omega
inductive RI where
 | raw (o : Nat)
 | bui (t a b1 b2 : Nat)
def RI.ids : RI → Nat → Prop
 | .raw o, i => i = o
 | .bui t a b1 b2, i => i = t ∨ i = a ∨ i = b1 ∨ i = b2
def RI.is (st : St) (r : Nat) : RI → Prop
 | .raw o => Raw st r o
 | .bui t a b1 b2 => Bui st r t a b1 b2 ∧ r ≠ t ∧ r ≠ a ∧ r ≠ b1 ∧ r ≠ b2
omit [NZ] in
theorem Joa (gl : Gl) (st : St) (r : Nat) (ri : RI) (h : ri.is st r) : Says Tryz.prog gl 77 [.ptr r 0, .fn 78 [.ptr r 0] []] st fun _ st' => ∃ t a b1 b2, (RI.bui t a b1 b2).is st' r ∧ (∀ i, (RI.bui t a b1 b2).ids i → ri.ids i ∨ st.ctr ≤ i) ∧ st.ctr ≤ st'.ctr ∧ ∀ i, i < st.ctr → i ≠ r → st'.box.get i = st.box.get i := by
 cases ri with
 | raw o =>
  obtain ⟨st', t, a, b1, b2, h1, h2, h3, h4, h5, h6, h7, h8⟩ := NO.fresh st r o h
  have hr : r < st.ctr := h.rlt
  refine ⟨_, st', Jdb h1, t, a, b1, b2, ⟨h2, by omega, by omega, by omega, by omega⟩, fun i hi => .inr ?_, h3, h4⟩
  rcases hi with rfl | rfl | rfl | rfl <;> assumption
 | bui t a b1 b2 =>
  obtain ⟨v, st', h1, h2⟩ := Jn9 gl st r (.fn 78 [.ptr r 0] []) _ h.1.rb
  rw [show st' = st from h2] at h1
  exact ⟨v, st, h1, t, a, b1, b2, h, fun i hi => .inl hi, Nat.le_refl _, fun _ _ _ => rfl⟩
omit [NZ] in
set_option maxRecDepth 100000 in
theorem JjV (gl : Gl) (st : St) (r : Nat) (ri : RI) (s : S) (hs : s.n ≤ 100000) (h : ri.is st r) :
  Says Tryz.prog gl 66 [.ptr r 0, .str s] st (fun v st' => (∃ u : S, v = .str u ∧ u.toList = esc s.toList) ∧ ∃ ri' : RI, ri'.is st' r ∧ (∀ i, ri'.ids i → ri.ids i ∨ st.ctr ≤ i) ∧ st.ctr ≤ st'.ctr ∧ ∀ i, i < st.ctr → i ≠ r → st'.box.get i = st.box.get i) := by
 refine JS (NY.no _ rfl rfl rfl _ _) Tryz.func66 rfl (by kernel_rfl) fun R hR K gr gn => ?_
 generalize hfr : Jx gl [.ptr r 0, .str s] = fr
 have hF : Fs gl [(0, .ptr r 0), (1, .str s)] fr := by subst hfr; simp [Fs]
 simp only [Fs] at hF
 clear hfr
 obtain ⟨v, q1, ho, t, a, b1, b2, hB, hids, hc1, hb1⟩ := Says.use (Joa gl st r ri h)
 have lr := Qd (P := Tryz.prog) (off := 3) a76 z76 hB.1.rb rfl
 obtain ⟨v2, q2, hrp, ⟨u, rfl, hu⟩, hk⟩ := Says.use (Jo6 gl q1 t a b1 b2 s hB.1.tb hs)
 refine Ks_ (Ka_ (gs := [none]) fun K1 gK => ?_)
 simp (disch := omega) []
 refine gK _ _ (Ks_ (Ka_ (gs := [none, none, none, none, none, none]) fun K1 gK => ?_))
 simp (disch := omega) [hF, fo3, ho]
 refine gK _ _ (Ks_ (Ka_ (gs := [none, none, none, none, none, none, none]) fun K1 gK => ?_))
 simp (disch := omega) [hF, fo4, lr, JfC, hrp]
 refine gK _ _ (Kq_ (gr _ _ ?_))
 simp [JC, Tryz.f66, hF]
 refine hR _ _ ?_
 exact ⟨⟨u, rfl, hu⟩, .bui t a b1 b2, ⟨⟨by rw [hk.box _ hB.1.rlt]; exact hB.1.rb, Nat.lt_of_lt_of_le hB.1.rlt hk.ctr, hB.1.tb.keep hk⟩, hB.2⟩, hids, Nat.le_trans hc1 hk.ctr, fun i hi hir => by rw [hk.box i (by omega)]; exact hb1 i hi hir⟩
end Go.Vm
