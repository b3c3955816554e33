/- strings.Count; a replacer of bytes by texts. -/
import Derived.Test.YtlholbhaajklhaaGreatDoorRz7
namespace Go.Vm
open Go Go.Proofs Go.Pa
attribute [local simp] OkG Qf Qs OkD J3 Qe JL Je Jk vop Jq Jx ev evs toV Jj Fr.dsTo Fr.glTo Fr.toNone Jg Jh Ji J7 QI Jc JF Jt V.undef JX JQ Qg J8 J9 Qa Qh Qi JT Qb Qj Qc JR Qk JE Jw Jy JD JG Ju JS JW Jb0 Jb1 Q6 Jbh JdL JdM fg0 fg1 fg2 fg3 fg4 fg5 fh0 fh1 JK Ql Jl Jal Jr
theorem JiJ {P : Program} (b : ByteArray) (c : Int) : QS P (Extern.BytealgCount.count #[.string b, .int .u8 c]) = some (.int .i64 ((b.data.toList.count c.toNat.toUInt8 : Nat) : Int)) := by
 have h : Extern.BytealgCount.count #[.string b, .int .u8 c] = (do
  let b ← Extern.Bytes.bytesOf (.string b)
  let c' ← Extern.Bytes.asByte (.int .u8 c)
  pure (goInt (b.foldl (fun n x => if x == c' then n + 1 else n) (0 : Nat)))) := rfl
 rw [h]
 simp only [JaB, Extern.Bytes.bytesOf, Extern.Bytes.asByte, Jge, Option.bind_some]
 rw [Lib.foldl_data, Lib.count_foldl]
 simp [goInt, Lib.countByte]
theorem JgW (s : S) (c : Nat) : Q8 Tryz.prog Tryz.f122 [.str s, .int .u8 (c : Int)] = some (.int .i64 ((s.toList.count (UInt8.ofNat c) : Nat) : Int)) := by
 have h1 : Extern.findNext Tryz.f122 = none := by kernel_rfl
 have h2 : Extern.find Tryz.f122 = some Extern.BytealgCount.count := by kernel_rfl
 have h3 := JiJ (P := Tryz.prog) ⟨⟨s.toList⟩⟩ (c : Int)
 simp only [Q8, h1, h2, QO, Jc, ofV]
 show (match QS Tryz.prog (Extern.BytealgCount.count #[.string ⟨⟨s.toList⟩⟩, .int .u8 (c : Int)]) with
  | some v => toV 6 v
  | none => none) = _
 rw [h3]
 rfl
def Jcd (l : List UInt8) : Bool := l.any fun b => b == 10 || b == 92
theorem JiK : ∀ {l : List UInt8}, Jcd l = false → esc l = l
 | [], _ => rfl
 | b :: l, h => by
  unfold Jcd at h
  rw [List.any_cons, Bool.or_eq_false_iff, Bool.or_eq_false_iff] at h
  have ih := JiK (l := l) h.2
  have h1 : ¬ b = 10 := by simpa using h.1.1
  have h2 : ¬ b = 92 := by simpa using h.1.2
  rw [show esc (b :: l) = Jb7 b ++ esc l from by simp [esc], ih]
  unfold Jb7
  rw [if_neg h1, if_neg h2]; rfl
theorem Jeb : ∀ l : List UInt8, (esc l).length = l.length + l.count 10 + l.count 92
 | [] => rfl
 | b :: l => by
  have ih := Jeb l
  rw [show esc (b :: l) = Jb7 b ++ esc l from by simp [esc], List.length_append, ih, List.count_cons, List.count_cons, List.length_cons]
  unfold Jb7
  by_cases h1 : b = 10
  ·subst h1; simp; omega
  ·by_cases h2 : b = 92
   ·subst h2; simp; omega
   ·rw [if_neg h1, if_neg h2]
    simp [h1, h2]; omega
theorem Jn0 (l : List UInt8) : Jcd l = (!decide (l.count 10 = 0) || !decide (l.count 92 = 0)) := by
 rw [Bool.eq_iff_iff]
 unfold Jcd
 simp only [List.any_eq_true, Bool.or_eq_true, beq_iff_eq, Bool.not_eq_true', decide_eq_false_iff_not, List.count_eq_zero]
 constructor
 ·rintro ⟨b, hb, rfl | rfl⟩
  ·exact .inl fun h => h hb
  ·exact .inr fun h => h hb
 ·rintro (h | h)
  ·exact ⟨10, Classical.not_not.1 h, .inl rfl⟩
  ·exact ⟨92, Classical.not_not.1 h, .inr rfl⟩
def Jec (b1 b2 i : Nat) : V := if i = 10 then .ms b1 0 2 1 none else if i = 92 then .ms b2 0 2 1 none else .nils
def TC (b1 b2 a : Nat) : List V := (List.range 256).map (Jec b1 b2) ++ [.ms a 0 2 1 (some 2)]
theorem Jpx {b1 b2 a i : Nat} (h : i < 256) : (TC b1 b2 a)[i]? = some (Jec b1 b2 i) := by
 unfold TC
 rw [List.getElem?_append_left (by simpa using h), List.getElem?_map, List.getElem?_range h]; rfl
theorem JoW {b1 b2 a : Nat} : (TC b1 b2 a)[256]? = some (.ms a 0 2 1 (some 2)) := by
 unfold TC
 rw [List.getElem?_append_right (by simp)]; simp
structure RBt (st : St) (t a b1 b2 : Nat) : Prop where
 tb : st.box.get t = some (.cells (TC b1 b2 a) 150 true (some 0))
 ab : st.box.get a = some (.cells [.str (S.ofList [10]), .str (S.ofList [92])] 9 true (some 0))
 b1b : st.box.get b1 = some (.cells [.int .u8 92, .int .u8 110] 5 false none)
 b2b : st.box.get b2 = some (.cells [.int .u8 92, .int .u8 92] 5 false none)
 tlt : t < st.ctr
 alt : a < st.ctr
 lt1 : b1 < st.ctr
 lt2 : b2 < st.ctr
theorem RBt.keep {st st' : St} {t a b1 b2 : Nat} (h : RBt st t a b1 b2) (k : Keep st st') : RBt st' t a b1 b2 :=
 ⟨by rw [k.box _ h.tlt]; exact h.tb, by rw [k.box _ h.alt]; exact h.ab, by rw [k.box _ h.lt1]; exact h.b1b, by rw [k.box _ h.lt2]; exact h.b2b, Nat.lt_of_lt_of_le h.tlt k.ctr, Nat.lt_of_lt_of_le h.alt k.ctr, Nat.lt_of_lt_of_le h.lt1 k.ctr, Nat.lt_of_lt_of_le h.lt2 k.ctr⟩
theorem ft0 (t : Nat) : Jo Tryz.prog 150 (.ptr t 0) 0 = some (.ptr t 0) := by kernel_rfl
theorem ft1 (t : Nat) : Jo Tryz.prog 150 (.ptr t 0) 1 = some (.ptr t 256) := by kernel_rfl
theorem Jp2 : Tryz.prog.underlying 148 = some (.array 256 62) := by kernel_rfl
theorem tix {t c : Nat} (h : c < 256) : Jd Tryz.prog 148 (.ptr t 0) (.int .u8 (c : Int)) = some (.ptr t c) := by
 have hb : Nat.blt c 256 = true := by rw [JaI]; exact decide_eq_true h
 simp only [Jd, Jp2, Qn, z91, hb, Nat.mul_one, Nat.zero_add]
theorem tld {st : St} {t a b1 b2 c : Nat} (h : RBt st t a b1 b2) (hc : c < 256) : Jz Tryz.prog st 62 (.ptr t c) = some (Jec b1 b2 c) := Jb a91 z91 h.tb (Jpx hc)
theorem Jp3 {st : St} {t a b1 b2 : Nat} (h : RBt st t a b1 b2) : Jz Tryz.prog st 23 (.ptr t 256) = some (.ms a 0 2 1 (some 2)) := Jb a23 z23 h.tb JoW
theorem Jaw {kk : Bool} {a b c d : Nat} {e : Option Nat} : Jf Tryz.prog kk .neq 62 (.ms a b c d e) .nils = some (.bool true) := by simp only [Jf, u91]
theorem Ja8 {kk : Bool} : Jf Tryz.prog kk .neq 62 .nils .nils = some (.bool false) := by cases kk <;> kernel_rfl
theorem RBt.vw {st : St} {t a b1 b2 : Nat} (h : RBt st t a b1 b2) : Vw st (.ms a 0 2 1 (some 2)) [S.ofList [10], S.ofList [92]] :=
 .ms a 0 (some 2) _ 9 true (some 0) [S.ofList [10], S.ofList [92]] h.ab (fun i hi => by
  simp at hi
  match i, hi with
  | 0, _ => rfl
  | 1, _ => rfl) (by simp) h.alt (by simp [Jc0, Jbg])
def JbZ (N : Nat) (acc : List UInt8) : List V := Qv acc ++ List.replicate (N - acc.length) (.int .u8 0)
theorem Jf4 {N : Nat} {acc : List UInt8} (h : acc.length ≤ N) : (JbZ N acc).length = N := by unfold JbZ; simp [Qo]; omega
theorem Jhd {N : Nat} {acc r : List UInt8} (h : acc.length + r.length ≤ N) : over (JbZ N acc) acc.length (Qv r) = JbZ N (acc ++ r) := by
 unfold over JbZ
 rw [List.take_append_of_le_length (by simp [Qo]), List.take_of_length_le (by simp [Qo]), Jgp]
 congr 1
 rw [List.drop_append, List.drop_of_length_le (by simp [Qo]), List.nil_append, List.drop_replicate, Qo, Qo, List.length_append]
 congr 1
 omega
theorem Jhe {st : St} {id b N : Nat} {acc r : List UInt8} {fl : Bool} (hb : st.box.get id = some (.cells (JbZ N acc) 5 true (some 0))) (hr : st.box.get b = some (.cells (Qv r) 5 fl none)) (h : acc.length + r.length ≤ N) (h0 : 0 < r.length) :
  Jei Tryz.prog st 62 (.ms id acc.length (N - acc.length) 1 (some (N - acc.length))) (.ms b 0 r.length 1 none) = some (.int .i64 (r.length : Int), st.put id (.cells (JbZ N (acc ++ r)) 5 true (some 0))) := by
 obtain ⟨d, hd⟩ : ∃ d, N - acc.length = d + 1 := ⟨N - acc.length - 1, by omega⟩
 have h1 : Nat.ble (0 + r.length) (Qv r).length = true := Nat.ble_eq_true_of_le (by rw [Qo]; omega)
 have h2 : Jad st 1 (.ms b 0 r.length 1 none) = some (Qv r, r.length) := by
  simp only [Jad, JV, hr, Nat.mul_one, h1, sub, List.drop_zero]
  rw [List.take_of_length_le (by rw [Qo]; exact Nat.le_refl _)]
 have h3 : Nat.ble (acc.length + (d + 1)) (JbZ N acc).length = true := Nat.ble_eq_true_of_le (by rw [Jf4 (by omega)]; omega)
 have h4 : Nat.min (d + 1) r.length = r.length := Nat.min_eq_right (by omega)
 have h5 : JcZ (some 0) acc.length = true := Nat.ble_eq_true_of_le (Nat.zero_le _)
 rw [hd]
 simp only [Jei, u91, z5, h2, hb, Nat.mul_one, h3, h4, h5, Jgq, show Nat.beq (d + 1) 0 = false from rfl, Nat.beq_refl, Bool.and_self, Bool.not_false]
 rw [List.take_of_length_le (by rw [Qo]; exact Nat.le_refl _), Jhd h]
 rfl
theorem JjZ {st : St} {id N c : Nat} {acc : List UInt8} (hc : c < 256) (hb : st.box.get id = some (.cells (JbZ N acc) 5 true (some 0))) (h : acc.length < N) :
  Jaq Tryz.prog st 5 (.ptr id acc.length) (.int .u8 (c : Int)) = some (st.put id (.cells (JbZ N (acc ++ [UInt8.ofNat c])) 5 true (some 0))) := by
 rw [JaM z5 hb (by rw [Jf4 (by omega)]; exact h) rfl, ← JiI _ _ _ (by rw [Jf4 (by omega)]; exact h)]
 have : [V.int .u8 (c : Int)] = Qv [UInt8.ofNat c] := by
  simp [Qv]; omega
 rw [this, Jhd (by simp; omega)]
 rfl
theorem JlN {st : St} {id : Nat} {acc : List UInt8} (hb : st.box.get id = some (.cells (JbZ acc.length acc) 5 true (some 0))) : Jbl Tryz.prog st 62 9 (.ms id 0 acc.length 1 (some acc.length)) = some (.str (S.ofList acc)) := by
 have h0 : JbZ acc.length acc = Qv acc := by unfold JbZ; simp
 rw [h0] at hb
 have h1 : Nat.ble (0 + acc.length) (Qv acc).length = true := Nat.ble_eq_true_of_le (by rw [Qo]; omega)
 simp only [Jbl, u91, u5, Tryz.underlying9, JV, hb, Nat.mul_one, h1, sub, List.drop_zero]
 rw [List.take_of_length_le (by rw [Qo]; exact Nat.le_refl _), JeO]
theorem Jhf {id j N : Nat} (h : j ≤ N) : Jaf Tryz.prog 62 (.ms id 0 N 1 (some N)) (some (.int .i64 (j : Int))) none = some (.ms id j (N - j) 1 (some (N - j))) := by
 have h1 : Nat.ble j N = true := Nat.ble_eq_true_of_le h
 simp only [Jaf, u91, J5, Qn, z5, h1, Jc0, Jbg, Bool.and_self, Nat.beq_refl, JdS, Nat.mul_one, Nat.zero_add]
 rfl
variable [Memo] [NY] [NZ]
omit [NZ] in
set_option maxRecDepth 100000 in
theorem Jf5 (gl : Gl) (st : St) (s x : S) (hx : x.n = 1) :
  Says Tryz.prog gl 108 [.str s, .str x] st (fun v st' => v = .int .i64 ((s.toList.count (UInt8.ofNat (x.at 0)) : Nat) : Int) ∧ Sm st st') := by
 refine QD (NY.no _ rfl rfl rfl _ _) Tryz.func108 rfl (by kernel_rfl) fun R hR K gr gn => ?_
 generalize hfr : JH gl [.str s, .str x] = fr
 have hF : Fs gl [(0, .str s), (1, .str x)] fr := by subst hfr; simp [Fs]
 simp only [Fs] at hF
 clear hfr
 have hn : (Tryz.f122.name == "runtime.NumGoroutine") = false := by kernel_rfl
 have hc : ∀ st, Jax Tryz.prog (ihCall (W Tryz.prog)) gl 122 [.str s, .int .u8 ((x.at 0 : Nat) : Int)] st = .val (.int .i64 ((s.toList.count (UInt8.ofNat (x.at 0)) : Nat) : Int)) st := fun st => Jd9 Tryz.func122 hn rfl (JgW s (x.at 0))
 have lx := Jap (P := Tryz.prog) Tryz.underlying9 (s := x)
 rw [hx] at lx
 have hix := Ja3 (P := Tryz.prog) (k := .i64) Tryz.underlying9 (s := x) (i := 0) (by omega)
 have hix' : JbK Tryz.prog 9 (.str x) (.int .i64 0) = some (.int .u8 ((x.at 0 : Nat) : Int)) := hix
 refine Ks_ (Ka_ (gs := [none]) fun K1 gK => ?_)
 simp (disch := omega) []
 refine gK _ _ (Ks_ (Ks_ (Ka_ (gs := [none, none, none]) fun K1 gK => ?_)))
 simp (disch := omega) [hF, lx]
 refine gK _ _ (Kf_ (by simp (disch := omega) []) (Kk_ (Ks_ (Ks_ (Ka_ (gs := [none, none, none]) fun K1 gK => ?_)))))
 simp (disch := omega) [hF, lx]
 refine gK _ _ (Kt_ (by simp (disch := omega) []) (Ks_ (Ka_ (gs := [none, none, none, none, none]) fun K1 gK => ?_)))
 simp (disch := omega) [hF, hc, hix']
 refine gK _ _ (Kq_ (gr _ _ ?_))
 simp [JM, Tryz.f108, hF]
 refine hR _ _ ?_
 exact ⟨rfl, rfl⟩
omit [Memo] [NY] [NZ] in
theorem JmL {s : S} {j : Nat} (h : j < s.n) : Jcd (s.toList.take (j + 1)) = (Jcd (s.toList.take j) || (decide (s.at j = 10) || decide (s.at j = 92))) := by
 rw [Jmm s h]
 unfold Jcd
 rw [List.any_append, List.any_cons, List.any_nil, Bool.or_false]
 have hc := S.at_lt s j
 have e (b : Nat) (hb : b < 256) : (UInt8.ofNat (s.at j) == UInt8.ofNat b) = decide (s.at j = b) := by
  rw [Bool.eq_iff_iff, beq_iff_eq, decide_eq_true_iff]; exact JhV hc hb
 rw [show (UInt8.ofNat (s.at j) == 10) = decide (s.at j = 10) from e 10 (by decide), show (UInt8.ofNat (s.at j) == 92) = decide (s.at j = 92) from e 92 (by decide)]
omit [Memo] [NY] [NZ] in
theorem Jf6 {s : S} {j : Nat} (h : j < s.n) : esc (s.toList.take (j + 1)) = esc (s.toList.take j) ++ Jb7 (UInt8.ofNat (s.at j)) := by
 rw [Jmm s h, JkP]; simp [esc]
omit [Memo] [NY] [NZ] in
theorem JmM {s : S} {j : Nat} (h : j < s.n) : (esc (s.toList.take j)).length + (Jb7 (UInt8.ofNat (s.at j))).length ≤ (esc s.toList).length := by
 have h1 : esc s.toList = esc (s.toList.take (j + 1)) ++ esc (s.toList.drop (j + 1)) := by rw [← JkP, List.take_append_drop]
 rw [h1, Jf6 h]; simp
set_option maxHeartbeats 8000000 in
omit [NZ] in
set_option maxRecDepth 100000 in
theorem JoX (gl : Gl) (st : St) (t a b1 b2 : Nat) (s : S) (hT : RBt st t a b1 b2) (hs : s.n ≤ 100000) :
  Says Tryz.prog gl 179 [.ptr t 0, .str s] st (fun v st' => (∃ u : S, v = .str u ∧ u.toList = esc s.toList) ∧ Keep st st') := by
 refine QD (NY.no _ rfl rfl rfl _ _) Tryz.func179 rfl (by kernel_rfl) fun R hR K gr gn => ?_
 generalize hfr : JH gl [.ptr t 0, .str s] = fr
 have hF : Fs gl [(0, .ptr t 0), (1, .str s)] fr := by subst hfr; simp [Fs]
 simp only [Fs] at hF
 clear hfr
 have ls := Jap Tryz.underlying9 (s := s)
 have lr := Jp3 hT
 have llr : QY Tryz.prog 23 (.ms a 0 2 1 (some 2)) = some (.int .i64 2) := by simp only [QY, Tryz.underlying23]; rfl
 have hmul : ∀ kk, Jf Tryz.prog kk .mul 3 (.int .i64 2) (.int .i64 8) = some (.int .i64 16) := fun kk => by cases kk <;> kernel_rfl
 have hl16 : ∀ kk, Jf Tryz.prog kk .leq 3 (.int .i64 16) (.int .i64 (s.n : Int)) = some (.bool (decide (16 ≤ s.n))) := fun kk => by
  have := Qa (P := Tryz.prog) (kk := kk) (T := 3) (q := .i64) (a := 16) (b := s.n)
  exact this
 refine Ks_ (Ka_ (gs := [none]) fun K1 gK => ?_)
 simp (disch := omega) []
 refine gK _ _ (Ks_ (Ka_ (gs := [none, none, none]) fun K1 gK => ?_))
 simp (disch := omega) [hF, ls]
 refine gK _ _ (Ks_ (Ka_ (gs := [none]) fun K1 gK => ?_))
 simp (disch := omega) []
 refine gK _ _ (Ks_ (Ks_ (Ka_ (gs := [none, none, none, none, none, none, none, none, none]) fun K1 gK => ?_)))
 simp (disch := omega) [hF, ls, ft1, lr, llr, hmul, hl16]
 refine gK _ _ ?_
 refine Km_ (fun fr st' => Fs gl [(0, .ptr t 0), (1, .str s), (5, .int .i64 ((esc s.toList).length : Int)), (6, .bool (Jcd s.toList))] fr ∧ Keep st st') ?_ ?_
 ·as_aux_lemma =>
  intro K1 gm1 go1
  by_cases h16 : 16 ≤ s.n
  ·
   refine Kt_ (by simp (disch := omega) [h16]) ?_
   obtain ⟨c1, hc1⟩ : ∃ c, s.toList.count 10 = c := ⟨_, rfl⟩
   obtain ⟨c2, hc2⟩ : ∃ c, s.toList.count 92 = c := ⟨_, rfl⟩
   have hlen := Jeb s.toList
   have hhas := Jn0 s.toList
   rw [hc1, hc2, S.len] at hlen
   rw [hc1, hc2] at hhas
   have hesc := JaF s.toList
   rw [S.len] at hesc
   refine Ks_ (Ka_ (gs := [none, none, none, none, none, none]) fun K1 gK => ?_)
   simp (disch := omega) [hF, ft1, lr, llr, h16]
   refine gK _ _ ?_
   refine Kl_ (2) (fun i fr st' => Fs gl [(0, .ptr t 0), (1, .str s), (5, .int .i64 (((if i = 0 then s.n else if i = 1 then s.n + c1 else s.n + c1 + c2) : Nat) : Int)), (6, .bool (if i = 0 then false else if i = 1 then !decide (c1 = 0) else (!decide (c1 = 0) || !decide (c2 = 0)))), (30, .ms a 0 2 1 (some 2)), (31, .int .i64 2), (32, .int .i64 (i : Int))] fr ∧ i ≤ 2 ∧ Keep st st') (0) (fun fr st' => Fs gl [(0, .ptr t 0), (1, .str s), (5, .int .i64 ((esc s.toList).length : Int)), (6, .bool (Jcd s.toList))] fr ∧ Keep st st') ?_ ?_ ?_ ?_
   ·exact ⟨by simp [Fs, hF], Nat.zero_le _, .refl _⟩
   ·rintro i fr st' ⟨_, hi, hk⟩
    omega
   ·as_aux_lemma =>
    clear hF
    rintro i fr st' ⟨hF, hi, hk⟩ K2 gk2 gx2 go2
    simp only [Fs] at hF
    refine Ks_ (Ka_ (gs := [none]) fun K1 gK => ?_)
    simp (disch := omega) [hF]
    refine gK _ _ (Ks_ ?_)
    by_cases hlt : i < 2
    ·
     refine Kt_ (by simp (disch := omega) [hlt]) ?_
     have hT' := hT.keep hk
     have hvw := hT'.vw
     have cn1 : UInt8.ofNat ((S.ofList [10]).at 0) = 10 := rfl
     have cn2 : UInt8.ofNat ((S.ofList [92]).at 0) = 92 := rfl
     have hti10 : Jd Tryz.prog 148 (.ptr t 0) (.int .u8 10) = some (.ptr t 10) := tix (c := 10) (by omega)
     have htl10 := fun c => (Jy (P := Tryz.prog) (st := st') (c := c) (T := 62) (a := .ptr t 10)).trans (tld hT' (c := 10) (by omega))
     have hti92 : Jd Tryz.prog 148 (.ptr t 0) (.int .u8 92) = some (.ptr t 92) := tix (c := 92) (by omega)
     have htl92 := fun c => (Jy (P := Tryz.prog) (st := st') (c := c) (T := 62) (a := .ptr t 92)).trans (tld hT' (c := 92) (by omega))
     have hrp10 : Jec b1 b2 10 = .ms b1 0 2 1 none := rfl
     have hrp92 : Jec b1 b2 92 = .ms b2 0 2 1 none := rfl
     rw [hrp10] at htl10
     rw [hrp92] at htl92
     have hl2 : ∀ b, QY Tryz.prog 62 (.ms b 0 2 1 none) = some (.int .i64 2) := fun b => by simp only [QY, u91]; rfl
     have hx10 : JbK Tryz.prog 9 (.str (S.ofList [10])) (.int .i64 0) = some (.int .u8 10) := by simp only [JbK, Tryz.underlying9]; rfl
     have hx92 : JbK Tryz.prog 9 (.str (S.ofList [92])) (.int .i64 0) = some (.int .u8 92) := by simp only [JbK, Tryz.underlying9]; rfl
     have vqm : ∀ b, veq 1000000000 (.ms b 0 2 1 none) (.ms b 0 2 1 none) = true := fun b => QA _ (Nat.le_of_ble_eq_true rfl)
     have k14 : Keep st { ctr := st'.ctr + 14, box := st'.box } := hk.tick 14
     by_cases hi0 : i = 0
     ·
      subst hi0
      have hxi : Jd Tryz.prog 23 (.ms a 0 2 1 (some 2)) (.int .i64 0) = some (adr 1 (.ms a 0 2 1 (some 2)) 0) := hvw.ix Tryz.underlying23 z9 (k := .i64) (a := 0) (by omega) (by simp)
      have hxd : Jz Tryz.prog st' 9 (adr 1 (.ms a 0 2 1 (some 2)) 0) = some (.str (S.ofList [10])) := hvw.ld z9 a9 (i := 0) (by simp)
      obtain ⟨v, q1, hcc, rfl, hq1⟩ := Says.use (Jf5 gl st' s (S.ofList [10]) rfl)
      rw [show q1 = st' from hq1, cn1, hc1] at hcc
      clear hq1
      refine Kk_ (Ks_ ?_)
      refine Kb_ fun K3 gn3 gx3 go3 => ?_
      refine Ks_ (Ka_ (gs := [none, none, none]) fun K1 gK => ?_)
      simp (disch := omega) [hF, hlt, hxi, hxd]
      refine gK _ _ (Ks_ (Ka_ (gs := [none, none, none, none]) fun K1 gK => ?_))
      simp (disch := omega) [hF, hcc]
      refine gK _ _ (Ks_ (Ka_ (gs := [none, none]) fun K1 gK => ?_))
      simp (disch := omega) []
      refine gK _ _ ?_
      by_cases hz : c1 = 0
      ·
       refine Kf_ (by simp (disch := omega) [hz]) (Kk_ (gn3 _ _ (Ka_ (gs := [none, none]) fun K1 gK => ?_)))
       simp (disch := omega) [hF, hz]
       refine gK _ _ ?_
       refine gk2 (1) _ _ (by omega) ⟨by simp [Fs, hF, hz], by omega, hk⟩
      ·
       refine Kt_ (by simp (disch := omega) [hz]) (Ks_ (Ki_ (b := [0, 0, 0, 0, 8, 4, 36, 124, 252, 508, 1020, 2046, 4095, 8191]) fun K1 gK => ?_))
       simp (disch := omega) [hF, ft0, hti10, htl10, hl2, hx10, vqm, Qd, hz]
       refine gK _ _ (Ka_ (gs := [none]) fun K1 gK => ?_)
       simp (disch := omega) []
       refine gK _ _ (gn3 _ _ (Ka_ (gs := [none, none]) fun K1 gK => ?_))
       simp (disch := omega) [hF]
       refine gK _ _ ?_
       refine gk2 (1) _ _ (by omega) ⟨by simp [Fs, hF, hz], by omega, k14⟩
     ·
      have hi1 : i = 1 := by omega
      subst hi1
      have hxi : Jd Tryz.prog 23 (.ms a 0 2 1 (some 2)) (.int .i64 1) = some (adr 1 (.ms a 0 2 1 (some 2)) 1) := hvw.ix Tryz.underlying23 z9 (k := .i64) (a := 1) (by omega) (by simp)
      have hxd : Jz Tryz.prog st' 9 (adr 1 (.ms a 0 2 1 (some 2)) 1) = some (.str (S.ofList [92])) := hvw.ld z9 a9 (i := 1) (by simp)
      obtain ⟨v, q1, hcc, rfl, hq1⟩ := Says.use (Jf5 gl st' s (S.ofList [92]) rfl)
      rw [show q1 = st' from hq1, cn2, hc2] at hcc
      clear hq1
      refine Kk_ (Ks_ ?_)
      refine Kb_ fun K4 gn4 gx4 go4 => ?_
      refine Ks_ (Ka_ (gs := [none, none, none]) fun K1 gK => ?_)
      simp (disch := omega) [hF, hlt, hxi, hxd]
      refine gK _ _ (Ks_ (Ka_ (gs := [none, none, none, none]) fun K1 gK => ?_))
      simp (disch := omega) [hF, hcc]
      refine gK _ _ (Ks_ (Ka_ (gs := [none, none]) fun K1 gK => ?_))
      simp (disch := omega) []
      refine gK _ _ ?_
      by_cases hz : c2 = 0
      ·
       refine Kf_ (by simp (disch := omega) [hz]) (Kk_ (gn4 _ _ (Ka_ (gs := [none, none]) fun K1 gK => ?_)))
       simp (disch := omega) [hF, hz]
       refine gK _ _ ?_
       refine gk2 (2) _ _ (by omega) ⟨by simp [Fs, hF, hz], by omega, hk⟩
      ·
       refine Kt_ (by simp (disch := omega) [hz]) (Ks_ (Ki_ (b := [0, 0, 0, 0, 8, 4, 36, 124, 252, 508, 1020, 2046, 4095, 8191]) fun K1 gK => ?_))
       simp (disch := omega) [hF, ft0, hti92, htl92, hl2, hx92, vqm, Qd, hz]
       refine gK _ _ (Ka_ (gs := [none]) fun K1 gK => ?_)
       simp (disch := omega) []
       refine gK _ _ (gn4 _ _ (Ka_ (gs := [none, none]) fun K1 gK => ?_))
       simp (disch := omega) [hF]
       refine gK _ _ ?_
       refine gk2 (2) _ _ (by omega) ⟨by simp [Fs, hF, hz], by omega, k14⟩
    ·
     refine Kf_ (by simp (disch := omega) [hlt]) ?_
     exact Kx_ (gx2 _ _ ⟨by (have hi2 : i = 2 := (by omega); subst hi2; rw [hhas, hlen]; simp [Fs, hF]),  hk⟩)
   ·as_aux_lemma =>
    clear hF
    rintro fr st' ⟨hF, hk⟩
    simp only [Fs] at hF
    exact gm1 _ _ ⟨by simp [Fs, hF], hk⟩
  ·
   refine Kf_ (by simp (disch := omega) [h16]) (Ks_ (Ka_ (gs := [none]) fun K1 gK => ?_))
   simp (disch := omega) [h16]
   refine gK _ _ ?_
   refine Kl_ (s.n) (fun j fr st' => Fs gl [(0, .ptr t 0), (1, .str s), (5, .int .i64 ((s.n + ((esc (s.toList.take j)).length - j) : Nat) : Int)), (6, .bool (Jcd (s.toList.take j))), (10, .int .i64 (j : Int))] fr ∧ j ≤ s.n ∧ st = st') (0) (fun fr st' => Fs gl [(0, .ptr t 0), (1, .str s), (5, .int .i64 ((esc s.toList).length : Int)), (6, .bool (Jcd s.toList))] fr ∧ st = st') ?_ ?_ ?_ ?_
   ·exact ⟨by simp [Fs, hF, esc, Jcd],  Nat.zero_le _, rfl⟩
   ·rintro j fr st' ⟨_, hj, rfl⟩
    omega
   ·as_aux_lemma =>
    clear hF
    rintro j fr st' ⟨hF, hj, rfl⟩ K5 gk5 gx5 go5
    simp only [Fs] at hF
    refine Ks_ (Ks_ (Ka_ (gs := [none, none, none, none]) fun K1 gK => ?_))
    simp (disch := omega) [hF, ls]
    refine gK _ _ ?_
    by_cases hlt : j < s.n
    ·
     refine Kt_ (by simp (disch := omega) [hlt]) ?_
     have hix := Ja3 (P := Tryz.prog) (k := .i64) Tryz.underlying9 hlt
     have hcl := S.at_lt s j
     have hti := tix (t := t) hcl
     have htl := tld hT hcl
     have hht := JmL hlt
     have het := Jf6 hlt
     have hej : j ≤ (esc (s.toList.take j)).length := by
      rw [Jeb, List.length_take, S.len]; omega
     have hej2 := JaF (s.toList.take j)
     rw [List.length_take, S.len] at hej2
     by_cases h10 : s.at j = 10
     ·
      have hrp : Jec b1 b2 10 = .ms b1 0 2 1 none := rfl
      have hl2 : QY Tryz.prog 62 (.ms b1 0 2 1 none) = some (.int .i64 2) := by simp only [QY, u91]; rfl
      rw [h10, JkQ] at het
      have hti10 : Jd Tryz.prog 148 (.ptr t 0) (.int .u8 10) = some (.ptr t 10) := tix (c := 10) (by omega)
      have htl10 := tld hT (c := 10) (by omega)
      refine Kk_ (Ks_ ?_)
      refine Kb_ fun K6 gn6 gx6 go6 => ?_
      refine Ks_ (Ka_ (gs := [none, none, none, none]) fun K1 gK => ?_)
      simp (disch := omega) [hF, hlt, hix, h10]
      refine gK _ _ (Ks_ (Ka_ (gs := [none, none, none, none, none, none, none]) fun K1 gK => ?_))
      simp (disch := omega) [hF, ft0, hti10, htl10, hrp, Jaw]
      refine gK _ _ (Kt_ (by simp (disch := omega) []) (Ks_ (Ka_ (gs := [none, none, none, none, none, none, none, none, none, none, none]) fun K1 gK => ?_)))
      simp (disch := omega) [hF, ft0, hti10, htl10, hrp, hl2]
      refine gK _ _ (Ka_ (gs := [none]) fun K1 gK => ?_)
      simp (disch := omega) []
      refine gK _ _ (gn6 _ _ (Ka_ (gs := [none, none, none]) fun K1 gK => ?_))
      simp (disch := omega) [hF]
      refine gK _ _ ?_
      refine gk5 (j + 1) _ _ (by omega) ⟨by (rw [hht, het]; simp [Fs, hF, h10]; omega),  by omega, rfl⟩
     ·
      by_cases h92 : s.at j = 92
      ·
       have hrp : Jec b1 b2 92 = .ms b2 0 2 1 none := rfl
       have hl2 : QY Tryz.prog 62 (.ms b2 0 2 1 none) = some (.int .i64 2) := by simp only [QY, u91]; rfl
       rw [h92, JkR] at het
       have hti92 : Jd Tryz.prog 148 (.ptr t 0) (.int .u8 92) = some (.ptr t 92) := tix (c := 92) (by omega)
       have htl92 := tld hT (c := 92) (by omega)
       refine Kk_ (Ks_ ?_)
       refine Kb_ fun K7 gn7 gx7 go7 => ?_
       refine Ks_ (Ka_ (gs := [none, none, none, none]) fun K1 gK => ?_)
       simp (disch := omega) [hF, hlt, hix, h92]
       refine gK _ _ (Ks_ (Ka_ (gs := [none, none, none, none, none, none, none]) fun K1 gK => ?_))
       simp (disch := omega) [hF, ft0, hti92, htl92, hrp, Jaw]
       refine gK _ _ (Kt_ (by simp (disch := omega) []) (Ks_ (Ka_ (gs := [none, none, none, none, none, none, none, none, none, none, none]) fun K1 gK => ?_)))
       simp (disch := omega) [hF, ft0, hti92, htl92, hrp, hl2]
       refine gK _ _ (Ka_ (gs := [none]) fun K1 gK => ?_)
       simp (disch := omega) []
       refine gK _ _ (gn7 _ _ (Ka_ (gs := [none, none, none]) fun K1 gK => ?_))
       simp (disch := omega) [hF]
       refine gK _ _ ?_
       refine gk5 (j + 1) _ _ (by omega) ⟨by (rw [hht, het]; simp [Fs, hF, h92]; omega),  by omega, rfl⟩
      ·
       have hrp : Jec b1 b2 (s.at j) = .nils := by unfold Jec; rw [if_neg h10, if_neg h92]
       rw [Jg8 hcl h10 h92] at het
       refine Kk_ (Ks_ ?_)
       refine Kb_ fun K8 gn8 gx8 go8 => ?_
       refine Ks_ (Ka_ (gs := [none, none, none, none]) fun K1 gK => ?_)
       simp (disch := omega) [hF, hlt, hix]
       refine gK _ _ (Ks_ (Ka_ (gs := [none, none, none, none, none, none, none]) fun K1 gK => ?_))
       simp (disch := omega) [hF, ft0, hti, htl, hrp, Ja8]
       refine gK _ _ (Kf_ (by simp (disch := omega) []) (Kk_ (gn8 _ _ (Ka_ (gs := [none, none, none]) fun K1 gK => ?_))))
       simp (disch := omega) [hF]
       refine gK _ _ ?_
       refine gk5 (j + 1) _ _ (by omega) ⟨by (rw [hht, het]; simp [Fs, hF, h10, h92]),  by omega, rfl⟩
    ·
     refine Kf_ (by simp (disch := omega) [hlt]) ?_
     exact Kx_ (gx5 _ _ ⟨by (rw [List.take_of_length_le (by rw [S.len]; omega)] at hF; simp [Fs, hF]; have hec := Jeb s.toList; rw [S.len] at hec; omega),  rfl⟩)
   ·as_aux_lemma =>
    clear hF
    rintro fr st' ⟨hF, rfl⟩
    simp only [Fs] at hF
    exact gm1 _ _ ⟨by simp [Fs, hF], .refl _⟩
 ·as_aux_lemma =>
  clear hF
  rintro fr st' ⟨hF, hk⟩
  simp only [Fs] at hF
  generalize hA : Jcd s.toList = A at hF
  have hec := Jeb s.toList
  have hel := JaF s.toList
  rw [S.len] at hel
  obtain ⟨N, hN⟩ : ∃ N, (esc s.toList).length = N := ⟨_, rfl⟩
  rw [hN] at hF hel
  obtain ⟨i5', hi5, hz5, hz5'⟩ := i5
  have hvm : Je9 Tryz.prog st' 62 (.int .i64 (N : Int)) (.int .i64 (N : Int)) = some (.ms st'.ctr 0 N 1 (some N), { ctr := st'.ctr + 1, box := st'.box.put st'.ctr (.cells (List.replicate N (.int .u8 0)) 5 true (some 0)) }) :=
   JlM u91 hi5 zs5 hz5 rfl (Nat.le_trans (Nat.mul_le_mul hz5' (show N ≤ 200000 by omega)) (by simp [JA])) (by simp [JA]; omega)
  obtain ⟨q1, hq1⟩ : ∃ q : St, q = { ctr := st'.ctr + 1, box := st'.box.put st'.ctr (.cells (List.replicate N (.int .u8 0)) 5 true (some 0)) } := ⟨_, rfl⟩
  rw [← hq1] at hvm
  have kq : Keep st' q1 := by rw [hq1]; exact (Keep.refl st').new _
  have cq : q1.ctr = st'.ctr + 1 := by rw [hq1]
  have gq : q1.box.get st'.ctr = some (.cells (JbZ N []) 5 true (some 0)) := by rw [hq1]; simp [Tr.get_put, JbZ, Qv]
  have cst := hk.ctr
  obtain ⟨id, hid⟩ : ∃ id, st'.ctr = id := ⟨_, rfl⟩
  rw [hid] at hvm gq cq cst
  refine Ks_ (Ks_ (Ka_ (gs := [none, none]) fun K1 gK => ?_))
  simp (disch := omega) [hF]
  refine gK _ _ ?_
  cases A with
  | true =>
   refine Kf_ (by simp (disch := omega) []) (Kk_ (Ks_ (Ka_ (gs := [none, none, none]) fun K1 gK => ?_)))
   simp (disch := omega) [hF, hvm]
   refine gK _ _ (Ks_ (Ka_ (gs := [none]) fun K1 gK => ?_))
   simp (disch := omega) []
   refine gK _ _ (Ks_ (Ks_ (Ka_ (gs := [none]) fun K1 gK => ?_)))
   simp (disch := omega) []
   refine gK _ _ ?_
   refine Kl_ (s.n) (fun j fr st' => Fs gl [(0, .ptr t 0), (1, .str s), (12, .ms id 0 N 1 (some N)), (13, .int .i64 ((esc (s.toList.take j)).length : Int)), (14, .int .i64 (j : Int))] fr ∧ j ≤ s.n ∧ Keep st st' ∧ id < st'.ctr ∧ st'.box.get id = some (.cells (JbZ N (esc (s.toList.take j))) 5 true (some 0))) (0) (fun fr st' => Fs gl [(12, .ms id 0 N 1 (some N))] fr ∧ Keep st st' ∧ id < st'.ctr ∧ st'.box.get id = some (.cells (JbZ N (esc s.toList)) 5 true (some 0))) ?_ ?_ ?_ ?_
   ·exact ⟨by simp [Fs, hF, esc],  Nat.zero_le _, hk.trans kq, by omega, by simpa [esc] using gq⟩
   ·rintro j fr st' ⟨_, hj, hk, hic, hbuf⟩
    omega
   ·as_aux_lemma =>
    clear hF
    rintro j fr st' ⟨hF, hj, hk, hic, hbuf⟩ K9 gk9 gx9 go9
    simp only [Fs] at hF
    refine Ks_ (Ks_ (Ka_ (gs := [none, none, none, none]) fun K1 gK => ?_))
    simp (disch := omega) [hF, ls]
    refine gK _ _ ?_
    by_cases hlt : j < s.n
    ·
     refine Kt_ (by simp (disch := omega) [hlt]) ?_
     have hix := Ja3 (P := Tryz.prog) (k := .i64) Tryz.underlying9 hlt
     have hcl := S.at_lt s j
     have hti := tix (t := t) hcl
     have hT' := hT.keep hk
     have htl := tld hT' hcl
     have het := Jf6 hlt
     have hroom := JmM hlt
     rw [hN] at hroom
     generalize esc (s.toList.take j) = acc at hF hbuf het hroom
     by_cases h10 : s.at j = 10
     ·
      have hti10 : Jd Tryz.prog 148 (.ptr t 0) (.int .u8 10) = some (.ptr t 10) := tix (c := 10) (by omega)
      have htl10 := fun c => (Jy (P := Tryz.prog) (st := st') (c := c) (T := 62) (a := .ptr t 10)).trans (tld hT' (c := 10) (by omega))
      have htl10' := tld hT' (c := 10) (by omega)
      rw [show Jec b1 b2 10 = .ms b1 0 2 1 none from rfl] at htl10 htl10'
      rw [h10, JkQ] at het hroom
      have hbuf2 : ({ ctr := st'.ctr + 13, box := st'.box } : St).box.get id = some (.cells (JbZ N acc) 5 true (some 0)) := hbuf
      have hcpy := Jhe (r := [92, 110]) hbuf2 (show _ = some (Bx.cells (Qv [92, 110]) 5 false none) from hT'.b1b) hroom (by simp)
      have hbs := Jhf (id := id) (j := acc.length) (N := N) (by simp at hroom; omega)
      have hcpy2 : Jei Tryz.prog { ctr := st'.ctr + 13, box := st'.box } 62 (.ms id acc.length (N - acc.length) 1 (some (N - acc.length))) (.ms b1 0 2 1 none) = some (.int .i64 2, ({ ctr := st'.ctr + 13, box := st'.box } : St).put id (.cells (JbZ N (acc ++ [92, 110])) 5 true (some 0))) := hcpy
      have vqm : veq 1000000000 (.ms b1 0 2 1 none) (.ms b1 0 2 1 none) = true := QA _ (Nat.le_of_ble_eq_true rfl)
      refine Kk_ (Ks_ ?_)
      refine Kb_ fun K10 gn10 gx10 go10 => ?_
      refine Ks_ (Ka_ (gs := [none, none, none, none]) fun K1 gK => ?_)
      simp (disch := omega) [hF, hlt, hix, h10]
      refine gK _ _ (Ks_ (Ka_ (gs := [none, none, none, none, none, none, none]) fun K1 gK => ?_))
      simp (disch := omega) [hF, ft0, hti10, htl10', Jaw]
      refine gK _ _ (Kt_ (by simp (disch := omega) []) (Kj_ (b := [0, 0, 0, 6, 0, 0, 16, 80, 240, 496, 1022, 2047, 4095]) (rs := [(1, 10), (0, 1), (11, 2)]) fun K1 gK => ?_))
      simp (disch := omega) [hF, ft0, hti10, htl10, hbs, hcpy2, vqm]
      refine gK _ _ (gn10 _ _ (Ka_ (gs := [none, none, none]) fun K1 gK => ?_))
      simp (disch := omega) [hF]
      refine gK _ _ ?_
      refine gk9 (j + 1) _ _ (by omega) ⟨by (simp only [het]; simp [Fs, hF]),  by omega, (hk.tick 13).put' (by omega) _, by (show id < st'.ctr + 13; omega), by rw [het, Jm, if_pos rfl]⟩
     ·
      by_cases h92 : s.at j = 92
      ·
       have hti92 : Jd Tryz.prog 148 (.ptr t 0) (.int .u8 92) = some (.ptr t 92) := tix (c := 92) (by omega)
       have htl92 := fun c => (Jy (P := Tryz.prog) (st := st') (c := c) (T := 62) (a := .ptr t 92)).trans (tld hT' (c := 92) (by omega))
       have htl92' := tld hT' (c := 92) (by omega)
       rw [show Jec b1 b2 92 = .ms b2 0 2 1 none from rfl] at htl92 htl92'
       rw [h92, JkR] at het hroom
       have hbuf2 : ({ ctr := st'.ctr + 13, box := st'.box } : St).box.get id = some (.cells (JbZ N acc) 5 true (some 0)) := hbuf
       have hcpy := Jhe (r := [92, 92]) hbuf2 (show _ = some (Bx.cells (Qv [92, 92]) 5 false none) from hT'.b2b) hroom (by simp)
       have hbs := Jhf (id := id) (j := acc.length) (N := N) (by simp at hroom; omega)
       have hcpy2 : Jei Tryz.prog { ctr := st'.ctr + 13, box := st'.box } 62 (.ms id acc.length (N - acc.length) 1 (some (N - acc.length))) (.ms b2 0 2 1 none) = some (.int .i64 2, ({ ctr := st'.ctr + 13, box := st'.box } : St).put id (.cells (JbZ N (acc ++ [92, 92])) 5 true (some 0))) := hcpy
       have vqm : veq 1000000000 (.ms b2 0 2 1 none) (.ms b2 0 2 1 none) = true := QA _ (Nat.le_of_ble_eq_true rfl)
       refine Kk_ (Ks_ ?_)
       refine Kb_ fun K11 gn11 gx11 go11 => ?_
       refine Ks_ (Ka_ (gs := [none, none, none, none]) fun K1 gK => ?_)
       simp (disch := omega) [hF, hlt, hix, h92]
       refine gK _ _ (Ks_ (Ka_ (gs := [none, none, none, none, none, none, none]) fun K1 gK => ?_))
       simp (disch := omega) [hF, ft0, hti92, htl92', Jaw]
       refine gK _ _ (Kt_ (by simp (disch := omega) []) (Kj_ (b := [0, 0, 0, 6, 0, 0, 16, 80, 240, 496, 1022, 2047, 4095]) (rs := [(1, 10), (0, 1), (11, 2)]) fun K1 gK => ?_))
       simp (disch := omega) [hF, ft0, hti92, htl92, hbs, hcpy2, vqm]
       refine gK _ _ (gn11 _ _ (Ka_ (gs := [none, none, none]) fun K1 gK => ?_))
       simp (disch := omega) [hF]
       refine gK _ _ ?_
       refine gk9 (j + 1) _ _ (by omega) ⟨by (simp only [het]; simp [Fs, hF]),  by omega, (hk.tick 13).put' (by omega) _, by (show id < st'.ctr + 13; omega), by rw [het, Jm, if_pos rfl]⟩
      ·
       have hrp : Jec b1 b2 (s.at j) = .nils := by unfold Jec; rw [if_neg h10, if_neg h92]
       rw [Jg8 hcl h10 h92] at hroom het
       have hst := JjZ hcl hbuf (by simp at hroom; omega)
       have hbx : Jd Tryz.prog 62 (.ms id 0 N 1 (some N)) (.int .i64 (acc.length : Int)) = some (.ptr id acc.length) := by
        have := JgV (P := Tryz.prog) (t := 62) (id := id) (off := 0) (n := N) (z := 1) (i := acc.length) (cap := some N) (k := .i64) u91 z5 (by simp at hroom; omega)
        simpa using this
       refine Kk_ (Ks_ ?_)
       refine Kb_ fun K12 gn12 gx12 go12 => ?_
       refine Ks_ (Ka_ (gs := [none, none, none, none]) fun K1 gK => ?_)
       simp (disch := omega) [hF, hlt, hix]
       refine gK _ _ (Ks_ (Ka_ (gs := [none, none, none, none, none, none, none]) fun K1 gK => ?_))
       simp (disch := omega) [hF, ft0, hti, htl, hrp, Ja8]
       refine gK _ _ (Kf_ (by simp (disch := omega) []) (Ks_ (Ka_ (gs := [none, none, none, none, none]) fun K1 gK => ?_)))
       simp (disch := omega) [hF, hst, hbx]
       refine gK _ _ (Ka_ (gs := [none, none, none]) fun K1 gK => ?_)
       simp (disch := omega) [hF]
       refine gK _ _ (gn12 _ _ (Ka_ (gs := [none, none, none]) fun K1 gK => ?_))
       simp (disch := omega) [hF]
       refine gK _ _ ?_
       refine gk9 (j + 1) _ _ (by omega) ⟨by (simp only [het]; simp [Fs, hF]),  by omega, hk.put' (by omega) _, hic, by rw [het, Jm, if_pos rfl]⟩
    ·
     refine Kf_ (by simp (disch := omega) [hlt]) ?_
     exact Kx_ (gx9 _ _ ⟨by simp [Fs, hF, hlt], hk, hic, by rw [List.take_of_length_le (by rw [S.len]; omega)] at hbuf; exact hbuf⟩)
   ·as_aux_lemma =>
    clear hF
    rintro fr st' ⟨hF, hk, hic, hbuf⟩
    simp only [Fs] at hF
    have hcv : Jbl Tryz.prog st' 62 9 (.ms id 0 N 1 (some N)) = some (.str (S.ofList (esc s.toList))) := by
     rw [← hN]
     rw [← hN] at hbuf
     exact JlN hbuf
    refine Ks_ (Ka_ (gs := [none, none, none]) fun K1 gK => ?_)
    simp (disch := omega) [hF, hcv]
    refine gK _ _ (Kq_ (gr _ _ ?_))
    simp [JM, Tryz.f179, hF]
    refine hR _ _ ?_
    exact ⟨⟨_, rfl, S.toList_ofList _⟩, hk⟩
  | false =>
   refine Kt_ (by simp (disch := omega) []) (Ks_ (Ka_ (gs := [none, none]) fun K1 gK => ?_))
   simp (disch := omega) [hF]
   refine gK _ _ (Kq_ (gr _ _ ?_))
   simp [JM, Tryz.f179, hF]
   refine hR _ _ ?_
   exact ⟨⟨s, rfl, (JiK hA).symm⟩, hk⟩
end Go.Vm
namespace Go.Vm
open Go Go.Proofs Go.Pa
attribute [local simp] OkG Qf Qs OkD J3 Qe JL Je Jk vop Jq Jx ev evs toV Jj Fr.dsTo Fr.glTo Fr.toNone Jg Jh Ji J7 QI Jc JF Jt V.undef JX JQ Qg J8 J9 Qa Qh Qi JT Qb Qj Qc JR Qk JE Jw Jy JD JG Ju JS JW Jb0 Jb1 Q6 Jbh JdL JdM fg0 fg1 fg2 fg3 fg4 fg5 fh0 fh1 JK Ql Jl Jal Jr
def oldsV : List V := [.str (S.ofList [92]), .str (S.ofList [92, 92]), .str (S.ofList [10]), .str (S.ofList [92, 110])]
structure Raw (st : St) (r o : Nat) : Prop where
 rb : st.box.get r = some (.cells [.int .u32 0, .int .i32 0, .int .u32 0, .nili, .ms o 0 4 1 none] 110 true (some 0))
 ob : st.box.get o = some (.cells oldsV 9 false (some 0))
 rlt : r < st.ctr
 olt : o < st.ctr
 ne : r ≠ o
structure Bui (st : St) (r t a b1 b2 : Nat) : Prop where
 rb : st.box.get r = some (.cells [.int .u32 1, .int .i32 0, .int .u32 0, .iface 151 (.ptr t 0), .nils] 110 true (some 0))
 rlt : r < st.ctr
 tb : RBt st t a b1 b2
theorem fo1 (r : Nat) : Jo Tryz.prog 106 (.ptr r 0) 1 = some (.ptr r 0) := by kernel_rfl
theorem fo2 (r : Nat) : Jo Tryz.prog 100 (.ptr r 0) 1 = some (.ptr r 0) := by kernel_rfl
theorem fo3 (r : Nat) : Jo Tryz.prog 110 (.ptr r 0) 0 = some (.ptr r 0) := by kernel_rfl
theorem fo4 (r : Nat) : Jo Tryz.prog 110 (.ptr r 0) 1 = some (.ptr r 3) := by kernel_rfl
theorem z76 : JU Tryz.prog 108 = some 1 := by kernel_rfl
theorem a76 : QM Tryz.prog 108 = some false := by kernel_rfl
theorem JoY (kk : Bool) (T : TypeId) : Jf Tryz.prog kk .neq T (.int .u32 1) (.int .u32 0) = some (.bool true) := by rw [JcV]; rfl
theorem Jfv : Jfy Tryz.prog 151 "Replace" = some 179 := by kernel_rfl
theorem JoZ [Memo] {gl : Gl} {st : St} {r : Nat} {n : Int} {l : List V} {e : TypeId} {fl : Bool} {fz : Option Nat} (hb : st.box.get r = some (.cells (V.int .u32 n :: l) e fl fz)) : Jax Tryz.prog (ihCall (W Tryz.prog)) gl 97 [.ptr r 0] st = .val (.int .u32 n) st := by
 have hn : Extern.findNext Tryz.f97 = none := by kernel_rfl
 have hx : Q8 Tryz.prog Tryz.f97 [.ptr r 0] = none := by
  simp only [Q8, hn]
  cases Extern.find Tryz.f97 with
  | none => rfl
  | some e => rfl
 have hd : Jhp Tryz.prog Tryz.f97 [.ptr r 0] st = some (.int .u32 n, st) := by
  show (match st.box.get r with
   | some (Bx.cells cs _ _ _) => (match cs[0]? with
    | some (V.int .u32 n) => some (V.int .u32 n, st)
    | _ => none)
   | _ => none) = _
  rw [hb]
  rfl
 simp only [Jax, Tryz.func97, show (Tryz.f97.name == "runtime.NumGoroutine") = false from by kernel_rfl, show Tryz.f97.body = none from rfl, hx, hn, hd]
class NO [Memo] : Prop where
 done : ∀ (st : St) (r : Nat) (g : V) (l : List V), st.box.get r = some (.cells (V.int .u32 1 :: l) 110 true (some 0)) → (Memo.look 66).run [.ptr r 0, g] st = none
 fresh : ∀ (st : St) (r o : Nat), Raw st r o → ∃ st' t a b1 b2, (Memo.look 66).run [.ptr r 0, .fn 67 [.ptr r 0] []] st = some (.tup [], st') ∧ Bui st' r t a b1 b2 ∧ st.ctr ≤ st'.ctr ∧ (∀ i, i < st.ctr → i ≠ r → st'.box.get i = st.box.get i) ∧ st.ctr ≤ t ∧ st.ctr ≤ a ∧ st.ctr ≤ b1 ∧ st.ctr ≤ b2
theorem JmN {st : St} {x : V} (hx : Ja4 st x oldsV) : QR Tryz.prog st 23 .nils x = some (.ms st.ctr 0 4 1 none, st.new (.cells oldsV 9 false (some 0))) := by
 obtain ⟨i, hi, h1, h2⟩ := i9
 have q1 : Nat.ble ((0 + 4) * i.bytes) JA = true := Nat.ble_eq_true_of_le (Nat.le_trans (Nat.mul_le_mul (show 0 + 4 ≤ 4 by omega) h2) (by simp [JA]))
 have hsrc : Jad st 1 x = some (oldsV, 4) := hx.1
 simp only [QR, Tryz.underlying23, hi, h1, zs9, hsrc, hx.2, JV, show Nat.beq 1 0 = false from rfl, q1]
 rfl
theorem JmO (o : Nat) : JdT Tryz.prog 110 [(2, .ms o 0 4 1 none)] = some (.agg [.int .u32 0, .int .i32 0, .int .u32 0, .nili, .ms o 0 4 1 none]) := by kernel_rfl
variable [Memo] [NY] [NZ] [NO]
omit [NZ] [NO] in
set_option maxRecDepth 100000 in
theorem Jn1 (gl : Gl) (st : St) (r : Nat) (l : List V) (e : TypeId) (fl : Bool) (fz : Option Nat) (hb : st.box.get r = some (.cells (V.int .u32 1 :: l) e fl fz)) :
  Says Tryz.prog gl 83 [.ptr r 0] st (fun v st' => v = .bool true ∧ Sm st st') := by
 refine QD (NY.no _ rfl rfl rfl _ _) Tryz.func83 rfl (by kernel_rfl) fun R hR K gr gn => ?_
 generalize hfr : JH gl [.ptr r 0] = fr
 have hF : Fs gl [(0, .ptr r 0)] fr := by subst hfr; simp [Fs]
 simp only [Fs] at hF
 clear hfr
 have hd := JoZ (gl := gl) hb
 refine Ks_ (Ka_ (gs := [none]) fun K1 gK => ?_)
 simp (disch := omega) []
 refine gK _ _ (Ks_ (Ka_ (gs := [none, none, none, none, none, none]) fun K1 gK => ?_))
 simp (disch := omega) [hF, fo2, hd, JoY]
 refine gK _ _ (Kq_ (gr _ _ ?_))
 simp [JM, Tryz.f83, hF]
 refine hR _ _ ?_
 exact ⟨rfl, rfl⟩
omit [NZ] in
set_option maxRecDepth 100000 in
theorem Jn2 (gl : Gl) (st : St) (r : Nat) (g : V) (l : List V) (hb : st.box.get r = some (.cells (V.int .u32 1 :: l) 110 true (some 0))) :
  Says Tryz.prog gl 66 [.ptr r 0, g] st (fun _v st' => Sm st st') := by
 refine QD (NO.done st r g l hb) Tryz.func66 rfl (by kernel_rfl) fun R hR K gr gn => ?_
 generalize hfr : JH gl [.ptr r 0, g] = fr
 have hF : Fs gl [(0, .ptr r 0), (1, g)] fr := by subst hfr; simp [Fs]
 simp only [Fs] at hF
 clear hfr
 obtain ⟨v, q1, hc, rfl, hq⟩ := Says.use (Jn1 gl st r l 110 true (some 0) hb)
 rw [show q1 = st from hq] at hc
 refine Ks_ (Ka_ (gs := [none, none, none, none, none]) fun K1 gK => ?_)
 simp (disch := omega) [hF, fo1, hc]
 refine gK _ _ (Kf_ (by simp (disch := omega) []) (Kk_ (gn _ _ ?_)))
 simp [JM, Tryz.f66, hF]
 refine hR _ _ ?_
 exact rfl
omit [NZ] [NO] in
set_option maxRecDepth 100000 in
theorem Jhg (gl : Gl) (st : St) (id : Nat) (hid : id < st.ctr) (hb : st.box.get id = some (.cells oldsV 9 true (some 0))) :
  Says Tryz.prog gl 41 [.ms id 0 4 1 (some 4)] st (fun v st' => v = .ptr (st.ctr + 1) 0 ∧ Raw st' (st.ctr + 1) st.ctr ∧ Keep st st') := by
 refine QD (NY.no _ rfl rfl rfl _ _) Tryz.func41 rfl (by kernel_rfl) fun R hR K gr gn => ?_
 generalize hfr : JH gl [.ms id 0 4 1 (some 4)] = fr
 have hF : Fs gl [(0, .ms id 0 4 1 (some 4))] fr := by subst hfr; simp [Fs]
 simp only [Fs] at hF
 clear hfr
 have ll : QY Tryz.prog 23 (.ms id 0 4 1 (some 4)) = some (.int .i64 4) := by simp only [QY, Tryz.underlying23]; rfl
 have hrem : ∀ kk, Jf Tryz.prog kk .rem 3 (.int .i64 4) (.int .i64 2) = some (.int .i64 0) := fun kk => by rw [JmP (by decide)]; rfl
 have hsrc : Ja4 st (.ms id 0 4 1 (some 4)) oldsV := (Mine.mk (lo := 0) (e := 9) (Nat.zero_le _) hid hb rfl).src rfl
 have ha := JmN hsrc
 have k1 := (Keep.refl st).new' (.cells oldsV 9 false (some 0))
 have o1 : (st.new (.cells oldsV 9 false (some 0))).box.get st.ctr = some (.cells oldsV 9 false (some 0)) := by rw [Js, if_pos rfl]
 have c1 : (st.new (.cells oldsV 9 false (some 0))).ctr = st.ctr + 1 := rfl
 generalize st.new (.cells oldsV 9 false (some 0)) = q1 at ha k1 o1 c1
 have hf : ({ ctr := q1.ctr + 1, box := q1.box.put q1.ctr (.cells [.int .u32 0, .int .i32 0, .int .u32 0, .nili, .ms st.ctr 0 4 1 none] 110 true (some 0)) } : St) = q1.new (.cells [.int .u32 0, .int .i32 0, .int .u32 0, .nili, .ms st.ctr 0 4 1 none] 110 true (some 0)) := rfl
 refine Ks_ (Ka_ (gs := [none]) fun K1 gK => ?_)
 simp (disch := omega) []
 refine gK _ _ (Ks_ (Ks_ (Ka_ (gs := [none, none, none, none]) fun K1 gK => ?_)))
 simp (disch := omega) [hF, ll, hrem]
 refine gK _ _ (Kf_ (by simp (disch := omega) []) (Kk_ (Ks_ (Ka_ (gs := [none, none, none, none, none]) fun K1 gK => ?_))))
 simp (disch := omega) [hF, ha, JmO, hf, J2, JZ, Tryz.underlying23]
 refine gK _ _ (Kq_ (gr _ _ ?_))
 simp [JM, Tryz.f41, hF]
 refine hR _ _ ?_
 refine ⟨by rw [c1], ⟨?_, ?_, ?_, ?_, by omega⟩, k1.new' _⟩
 ·rw [Js, if_pos c1.symm]
 ·rw [Js, if_neg (by omega)]; exact o1
 ·rw [JY]; omega
 ·rw [JY]; omega
inductive RI where
 | raw (o : Nat)
 | bui (t a b1 b2 : Nat)
def RI.ids : RI → Nat → Prop
 | .raw o, i => i = o
 | .bui t a b1 b2, i => i = t ∨ i = a ∨ i = b1 ∨ i = b2
def RI.is (st : St) (r : Nat) : RI → Prop
 | .raw o => Raw st r o
 | .bui t a b1 b2 => Bui st r t a b1 b2 ∧ r ≠ t ∧ r ≠ a ∧ r ≠ b1 ∧ r ≠ b2
omit [NZ] in
theorem Jn3 (gl : Gl) (st : St) (r : Nat) (ri : RI) (h : ri.is st r) : Says Tryz.prog gl 66 [.ptr r 0, .fn 67 [.ptr r 0] []] st fun _ st' => ∃ t a b1 b2, (RI.bui t a b1 b2).is st' r ∧ (∀ i, (RI.bui t a b1 b2).ids i → ri.ids i ∨ st.ctr ≤ i) ∧ st.ctr ≤ st'.ctr ∧ ∀ i, i < st.ctr → i ≠ r → st'.box.get i = st.box.get i := by
 cases ri with
 | raw o =>
  obtain ⟨st', t, a, b1, b2, h1, h2, h3, h4, h5, h6, h7, h8⟩ := NO.fresh st r o h
  have hr : r < st.ctr := h.rlt
  refine ⟨_, st', Jd2 h1, t, a, b1, b2, ⟨h2, by omega, by omega, by omega, by omega⟩, fun i hi => .inr ?_, h3, h4⟩
  rcases hi with rfl | rfl | rfl | rfl <;> assumption
 | bui t a b1 b2 =>
  obtain ⟨v, st', h1, h2⟩ := Jn2 gl st r (.fn 67 [.ptr r 0] []) _ h.1.rb
  rw [show st' = st from h2] at h1
  exact ⟨v, st, h1, t, a, b1, b2, h, fun i hi => .inl hi, Nat.le_refl _, fun _ _ _ => rfl⟩
omit [NZ] in
set_option maxRecDepth 100000 in
theorem Jf7 (gl : Gl) (st : St) (r : Nat) (ri : RI) (s : S) (hs : s.n ≤ 100000) (h : ri.is st r) :
  Says Tryz.prog gl 42 [.ptr r 0, .str s] st (fun v st' => (∃ u : S, v = .str u ∧ u.toList = esc s.toList) ∧ ∃ ri' : RI, ri'.is st' r ∧ (∀ i, ri'.ids i → ri.ids i ∨ st.ctr ≤ i) ∧ st.ctr ≤ st'.ctr ∧ ∀ i, i < st.ctr → i ≠ r → st'.box.get i = st.box.get i) := by
 refine QD (NY.no _ rfl rfl rfl _ _) Tryz.func42 rfl (by kernel_rfl) fun R hR K gr gn => ?_
 generalize hfr : JH gl [.ptr r 0, .str s] = fr
 have hF : Fs gl [(0, .ptr r 0), (1, .str s)] fr := by subst hfr; simp [Fs]
 simp only [Fs] at hF
 clear hfr
 obtain ⟨v, q1, ho, t, a, b1, b2, hB, hids, hc1, hb1⟩ := Says.use (Jn3 gl st r ri h)
 have lr := Jb (P := Tryz.prog) (off := 3) a76 z76 hB.1.rb rfl
 obtain ⟨v2, q2, hrp, ⟨u, rfl, hu⟩, hk⟩ := Says.use (JoX gl q1 t a b1 b2 s hB.1.tb hs)
 refine Ks_ (Ka_ (gs := [none]) fun K1 gK => ?_)
 simp (disch := omega) []
 refine gK _ _ (Ks_ (Ka_ (gs := [none, none, none, none, none, none]) fun K1 gK => ?_))
 simp (disch := omega) [hF, fo3, ho]
 refine gK _ _ (Ks_ (Ka_ (gs := [none, none, none, none, none, none, none]) fun K1 gK => ?_))
 simp (disch := omega) [hF, fo4, lr, Jfv, hrp]
 refine gK _ _ (Kq_ (gr _ _ ?_))
 simp [JM, Tryz.f42, hF]
 refine hR _ _ ?_
 exact ⟨⟨u, rfl, hu⟩, .bui t a b1 b2, ⟨⟨by rw [hk.box _ hB.1.rlt]; exact hB.1.rb, Nat.lt_of_lt_of_le hB.1.rlt hk.ctr, hB.1.tb.keep hk⟩, hB.2⟩, hids, Nat.le_trans hc1 hk.ctr, fun i hi hir => by rw [hk.box i (by omega)]; exact hb1 i hi hir⟩
end Go.Vm
