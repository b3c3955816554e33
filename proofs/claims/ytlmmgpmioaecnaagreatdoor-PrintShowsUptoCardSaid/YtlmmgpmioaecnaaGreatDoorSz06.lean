/- strings.Join; a place as a path, by the program. -/
import Derived.Test.YtlmmgpmioaecnaaGreatDoorSz05
namespace Go.Vm
open Go Go.Proofs Go.Pa
set_option maxRecDepth 100000
attribute [local simp] OkG Ql QG OkD Qf J8 JT Jj Jo vop Js Jy ev evs toV Jn Fr.dsTo Fr.glTo Fr.toNone Jk Jl Jm J6 Qe Jc Jz Jw V.undef JU JO Qn Qo Qt Qp Qu Qv JN Qw Qx Qy J7 Qz Ji Jt JG Jq JI Jp JX J2 Jv JM JP JS JK
theorem JpY {st : St} {x : V} {l : List S} (hx : Vw st x l) (h : 1 ≤ l.length) : ∃ y, QA Tryz.prog 31 x (some (.int .i64 1)) none = some y ∧ Vw st y (l.drop 1) := hx.tail (k := .i64) Tryz.underlying31 z9 h
def Jgh (l : List S) : Nat := (l.map S.n).sum
theorem Jlo {p : List S} {i : Nat} (h : i < p.length) : Jgh (p.take (i + 1)) = Jgh (p.take i) + p[i].n := by
 unfold Jgh
 rw [List.take_add_one, List.getElem?_eq_getElem h, List.map_append, List.sum_append]; simp
theorem Jht : ∀ (p : List S), (∀ s ∈ p, s.n ≤ 1000000) → Jgh p ≤ 1000000 * p.length
 | [], _ => Nat.le_refl _
 | s :: p, h => by
  have := Jht p fun t ht => h t (by simp [ht])
  have := h s (by simp)
  unfold Jgh at *
  simp only [List.map_cons, List.sum_cons, List.length_cons]; omega
theorem sep1 {c : UInt8} : QU Tryz.prog 9 (.str (S.ofList [c])) = some (.int .i64 1) := by simp only [QU, Tryz.underlying9]; rfl
variable [Memo] [NY]
end Go.Vm
namespace Go.Vm
open Go Go.Proofs Go.Pa
set_option maxRecDepth 100000
attribute [local simp] OkS Q0 OkG Ql QG OkD Qf J8 JT Jj Jo vop Js Jy ev evs toV Jn Fr.dsTo Fr.glTo Fr.toNone Jk Jl Jm J6 Qe Jc Jz Jw V.undef JU JO Qn Qo Qt Qp Qu Qv JN Qw Qx Qy J7 Qz Ji Jt JG Jq JI Jp JX J2 Jv JM
def Jpt (b : Nat) (st : St) (l : List UInt8) : Prop := (st.box.get b = some (.cells [.nilp, .nils] 68 true (some 0)) ∧ l = [] ∧ b < st.ctr) ∨ (Bld b b st l ∧ l ≠ [])
theorem JmY {st : St} {t : TypeId} : JbP Tryz.prog st t .nilp (.int .i64 0) = some (.str ⟨0, 0⟩, st) := by simp only [JbP, Ja6]
variable [Memo] [NY]
set_option maxRecDepth 100000 in
theorem JjA (gl : Gl) (st : St) (b : Nat) (hb : st.box.get b = some (.cells [.nilp, .nils] 68 true (some 0))) (hbc : b < st.ctr) :
  Says Tryz.prog gl 33 [.ptr b 0] st (fun v st' => v = .str ⟨0, 0⟩ ∧ Low b st st') := by
 refine Qb (NY.no _ rfl rfl rfl _ _) Tryz.func33 rfl (by kernel_rfl) fun R hR K gr gn => ?_
 generalize hfr : JC gl [.ptr b 0] = fr
 have hF : Fs gl [(0, .ptr b 0)] fr := by subst hfr; simp [Fs]
 simp only [Fs] at hF
 clear hfr
 have l1 := Jf (P := Tryz.prog) (off := 1) a91 z91 hb rfl
 have ln : QU Tryz.prog 66 .nils = some (.int .i64 0) := by simp only [QU, u91]
 refine Ks_ (Ka_ (gs := [none]) fun K1 gK => ?_)
 simp (disch := omega) []
 refine gK _ _ (Ks_ (Kh_ (b := [0, 1, 3, 7, 15, 0, 32, 96, 224, 480, 1023, 2047]) (gs := [none, none, none, none, none, none, none, none, none, none, none, none]) fun K1 gK => ?_))
 simp (disch := omega) [hF, fb1, l1, ln, JmY]
 refine gK _ _ (Kq_ (gr _ _ ?_))
 simp [JW, Tryz.f33, hF]
 refine hR _ _ ?_
 exact ⟨rfl, Low.of (Jia _ _) (by omega)⟩
theorem JjB (gl : Gl) (st : St) (b : Nat) (l : List UInt8) (hb : Jpt b st l) (hl : l.length ≤ 1000000000000) :
  Says Tryz.prog gl 33 [.ptr b 0] st fun v st' => (∃ t : S, v = .str t ∧ t.toList = l) ∧ Low b st st' := by
 rcases hb with ⟨h1, rfl, h3⟩ | h
 ·exact (JjA gl st b h1 h3).mono fun v st' ⟨h, k⟩ => ⟨⟨_, h, rfl⟩, k⟩
 ·exact JgJ gl st b b l h.1 hl h.2
end Go.Vm
namespace Go.Vm
open Go Go.Proofs Go.Pa
set_option maxRecDepth 100000
attribute [local simp] OkS Q0 OkG Ql QG OkD Qf J8 JT Jj Jo vop Js Jy ev evs toV Jn Fr.dsTo Fr.glTo Fr.toNone Jk Jl Jm J6 Qe Jc Jz Jw V.undef JU JO Qn Qo Qt Qp Qu Qv JN Qw Qx Qy J7 Qz Ji Jt JG Jq JI Jp JX J2 Jv JM
structure Wgo (F : Nat → Prop) (st : St) (F' : Nat → Prop) (st' : St) : Prop where
 o : Outs F st st'
 f : ∀ i, F' i → F i ∨ st.ctr ≤ i
theorem Wgo.trans {F G H : Nat → Prop} {a b c : St} (h : Wgo F a G b) (k : Wgo G b H c) : Wgo F a H c := ⟨⟨Nat.le_trans h.o.ctr k.o.ctr, fun i hi hf => by
  rw [k.o.box i (Nat.lt_of_lt_of_le hi h.o.ctr) fun hg => (h.f i hg).elim hf fun hh => by omega]; exact h.o.box i hi hf⟩, fun i hi => by
  rcases k.f i hi with h1 | h1
  ·exact h.f i h1
  ·exact .inr (Nat.le_trans h.o.ctr h1)⟩
theorem Wgo.box {F F' : Nat → Prop} {a b : St} (h : Wgo F a F' b) {i : Nat} (hi : i < a.ctr) (hf : ¬ F i) : b.box.get i = a.box.get i ∧ ¬ F' i := ⟨h.o.box i hi hf, fun hh => (h.f i hh).elim hf fun h2 => by omega⟩
def Wb (b : Nat) (st : St) (F : Nat → Prop) (l : List UInt8) : Prop := b < st.ctr ∧ ((st.box.get b = some (.cells [.nilp, .nils] 68 true (some 0)) ∧ l = [] ∧ ∀ i, F i ↔ i = b) ∨
 ∃ y, st.box.get b = some (.cells [.ptr b 0, y] 68 true (some 0)) ∧ Mine b 5 st y (Qi l) ∧ ¬ vid y b ∧ ∀ i, F i ↔ (i = b ∨ vid y i))
theorem Wb.lt {b : Nat} {st : St} {F : Nat → Prop} {l : List UInt8} (h : Wb b st F l) {i : Nat} (hi : F i) : b ≤ i ∧ i < st.ctr := by
 obtain ⟨h0, ⟨h1, h2, h3⟩ | ⟨y, h1, h2, h3, h4⟩⟩ := h
 ·have := (h3 i).1 hi; omega
 ·rcases (h4 i).1 hi with h5 | h5
  ·omega
  ·have := h2.vid_lt h5; omega
theorem Wb.stab {b : Nat} {st st' : St} {F : Nat → Prop} {l : List UInt8} (h : Wb b st F l) (hc : st.ctr ≤ st'.ctr) (hb : ∀ i, F i → st'.box.get i = st.box.get i) : Wb b st' F l := by
 obtain ⟨h0, ⟨h1, h2, h3⟩ | ⟨y, h1, h2, h3, h4⟩⟩ := h
 ·exact ⟨by omega, .inl ⟨by rw [hb b ((h3 b).2 rfl)]; exact h1, h2, h3⟩⟩
 ·exact ⟨by omega, .inr ⟨y, by rw [hb b ((h4 b).2 (.inl rfl))]; exact h1, h2.stab hc fun i hi => hb i ((h4 i).2 (.inr hi)), h3, h4⟩⟩
theorem Wb.keep {b : Nat} {st st' : St} {F : Nat → Prop} {l : List UInt8} (h : Wb b st F l) (k : Keep st st') : Wb b st' F l := h.stab k.ctr fun i hi => k.box i (h.lt hi).2
theorem Wb.bldW {b : Nat} {st : St} {F : Nat → Prop} {l : List UInt8} (h : Wb b st F l) (hne : l ≠ []) : Jpt b st l := by
 obtain ⟨h0, ⟨h1, h2, h3⟩ | ⟨y, h1, h2, h3, h4⟩⟩ := h
 ·exact absurd h2 hne
 ·exact .inr ⟨⟨y, h1, Nat.le_refl _, h0, h2, h3⟩, hne⟩
variable [Memo] [NY]
theorem Wb.check (gl : Gl) {b : Nat} {st : St} {F : Nat → Prop} {l : List UInt8} (h : Wb b st F l) : ∃ v q1 y, JaA Tryz.prog (ihCall (W Tryz.prog)) gl 49 [.ptr b 0] st = .val v q1 ∧ q1.box.get b = some (.cells [.ptr b 0, y] 68 true (some 0)) ∧ Mine b 5 q1 y (Qi l) ∧ ¬ vid y b ∧ (∀ i, F i ↔ (i = b ∨ vid y i)) ∧ q1.ctr = st.ctr ∧ ∀ i, i ≠ b → q1.box.get i = st.box.get i := by
 obtain ⟨h0, ⟨h1, h2, h3⟩ | ⟨y, h1, h2, h3, h4⟩⟩ := h
 ·obtain ⟨v, q1, hcc, hq1⟩ := Says.use (Jdt gl st b h1) (by kernel_rfl)
  subst h2
  exact ⟨v, q1, .nils, hcc, by rw [hq1, QD, if_pos rfl], .nils, fun h => h, fun i => by rw [h3 i]; exact ⟨.inl, fun h => h.elim id fun h => h.elim⟩, by rw [hq1, JgX], fun i hi => by rw [hq1, QD, if_neg hi]⟩
 ·obtain ⟨v, q1, hcc, hq1⟩ := Says.use (Jd0 gl st b y h1) (by kernel_rfl)
  obtain rfl : q1 = st := hq1
  exact ⟨v, q1, y, hcc, h1, h2, h3, h4, rfl, fun _ _ => rfl⟩
set_option maxRecDepth 100000 in
theorem JjC (gl : Gl) (st : St) (b : Nat) (F : Nat → Prop) (l : List UInt8) (s : S) (hb : Wb b st F l) (hl : l.length + s.n ≤ 1000000000000) :
  Says Tryz.prog gl 32 [.ptr b 0, .str s] st (fun _v st' => ∃ F', Wb b st' F' (l ++ s.toList) ∧ Wgo F st F' st') := by
 refine Qb (NY.no _ rfl rfl rfl _ _) Tryz.func32 rfl (by kernel_rfl) fun R hR K gr gn => ?_
 generalize hfr : JC gl [.ptr b 0, .str s] = fr
 have hF : Fs gl [(0, .ptr b 0), (1, .str s)] fr := by subst hfr; simp [Fs]
 simp only [Fs] at hF
 clear hfr
 obtain ⟨v, q1, y, hcc, b1, hm, hv, hF', hqc, hqb⟩ := hb.check gl
 have hbc := hb.1
 have l1 := Jf (P := Tryz.prog) (off := 1) a91 z91 b1 rfl
 obtain ⟨z, q2, ha, hl2, hm2, hv2, ho2⟩ := Jje hm (JfN q1 s) (by omega) (by rw [J5, J5, S.len]; exact hl)
 have b2 := (ho2 b (by omega) hv).trans b1
 have hvz : ¬ vid z b := fun h => by
  rcases hv2 b h with h | h
  ·exact hv h
  ·omega
 have w := QB (P := Tryz.prog) (st := q2) (t := 66) (off := 1) (v := z) z91 b2 (by simp) hm2.sim
 have ls := QC Tryz.underlying9 (s := s)
 refine Ks_ (Ka_ (gs := [none, none]) fun K1 gK => ?_)
 simp (disch := omega) []
 refine gK _ _ (Ks_ (Ka_ (gs := [none, none]) fun K1 gK => ?_))
 simp (disch := omega) [hF, hcc]
 refine gK _ _ (Ks_ (Ka_ (gs := [none, none, none, none, none, none, none, none, none, none]) fun K1 gK => ?_))
 simp (disch := omega) [hF, fb1, l1, ha, w, Tryz.underlying9]
 refine gK _ _ (Ks_ (Ka_ (gs := [none, none, none, none]) fun K1 gK => ?_))
 simp (disch := omega) [hF, ls]
 refine gK _ _ (Kq_ (gr _ _ ?_))
 simp [JW, Tryz.f32, hF]
 refine hR _ _ ?_
 have hbb : (q2.put b (.cells [.ptr b 0, z] 68 true (some 0))).box.get b = some (.cells [.ptr b 0, z] 68 true (some 0)) := by rw [QD, if_pos rfl]
 have hc2 := hl2.ctr
 refine ⟨fun i => i = b ∨ vid z i, ⟨by show b < q2.ctr; omega, .inr ⟨z, hbb, ?_, hvz, fun i => Iff.rfl⟩⟩, ⟨⟨by show st.ctr ≤ q2.ctr; omega, fun i hi hf => ?_⟩, fun i hi => ?_⟩⟩
 ·rw [Jcy]
  exact hm2.stab (Nat.le_refl _) fun i hi => by
   show (q2.put b _).box.get i = _
   rw [QD, if_neg (by rintro rfl; exact hvz hi)]
 ·have hib : i ≠ b := fun h => hf ((hF' i).2 (.inl h))
  show (q2.put b _).box.get i = _
  rw [QD, if_neg hib, ho2 i (by omega) fun h => hf ((hF' i).2 (.inr h)), hqb i hib]
 ·rcases hi with h | h
  ·exact .inl ((hF' i).2 (.inl h))
  ·rcases hv2 i h with h | h
   ·exact .inl ((hF' i).2 (.inr h))
   ·exact .inr (by omega)
end Go.Vm
namespace Go.Pa
end Go.Pa
namespace Go.Vm
open Go Go.Proofs Go.Sy
set_option maxRecDepth 100000
attribute [local simp] OkS Q0 OkG Ql QG OkD Qf J8 JT Jj Jo vop Js Jy ev evs toV Jn Fr.dsTo Fr.glTo Fr.toNone Jk Jl Jm J6 Qe Jc Jz Jw V.undef JU JO Qn Qo Qt Qp Qu Qv JN Qw Qx Qy J7 Qz Ji Jt JG Jq JI Jp JX J2 Jv JM JP JS JK
theorem JiA {P : Program} (b : ByteArray) (c : Int) : QI P (Extern.BytealgCount.count #[.string b, .int .u8 c]) = some (.int .i64 ((b.data.toList.count c.toNat.toUInt8 : Nat) : Int)) := by
 have h : Extern.BytealgCount.count #[.string b, .int .u8 c] = (do
  let b ← Extern.Bytes.bytesOf (.string b)
  let c' ← Extern.Bytes.asByte (.int .u8 c)
  pure (goInt (b.foldl (fun n x => if x == c' then n + 1 else n) (0 : Nat)))) := rfl
 rw [h]
 simp only [Q4, Extern.Bytes.bytesOf, Extern.Bytes.asByte, Jdy, Option.bind_some]
 rw [Lib.foldl_data, Lib.count_foldl]
 simp [goInt, Lib.countByte]
theorem Jgi (s : S) (c : Nat) : Jal Tryz.prog Tryz.f218 [.str s, .int .u8 (c : Int)] = some (.int .i64 ((s.toList.count (UInt8.ofNat c) : Nat) : Int)) := by
 have h1 : Extern.findNext Tryz.f218 = none := by kernel_rfl
 have h2 : Extern.find Tryz.f218 = some Extern.BytealgCount.count := by kernel_rfl
 have h3 := JiA (P := Tryz.prog) ⟨⟨s.toList⟩⟩ (c : Int)
 simp only [Jal, h1, h2, QJ, Jc, ofV]
 show (match QI Tryz.prog (Extern.BytealgCount.count #[.string ⟨⟨s.toList⟩⟩, .int .u8 (c : Int)]) with
  | some v => toV 6 v
  | none => none) = _
 rw [h3]
 rfl
theorem ft0 (t : Nat) : JD Tryz.prog 180 (.ptr t 0) 0 = some (.ptr t 0) := by kernel_rfl
theorem ft1 (t : Nat) : JD Tryz.prog 180 (.ptr t 0) 1 = some (.ptr t 256) := by kernel_rfl
theorem JpZ : Tryz.prog.underlying 178 = some (.array 256 66) := by kernel_rfl
theorem tix {t c : Nat} (h : c < 256) : Jd Tryz.prog 178 (.ptr t 0) (.int .u8 (c : Int)) = some (.ptr t c) := by
 have hb : Nat.blt c 256 = true := by rw [JaU]; exact decide_eq_true h
 simp only [Jd, JpZ, Qa, z91, hb, Nat.mul_one, Nat.zero_add]
theorem JaS {kk : Bool} {a b c d : Nat} {e : Option Nat} : Je Tryz.prog kk .neq 66 (.ms a b c d e) .nils = some (.bool true) := by simp only [Je, u91]
theorem QT {kk : Bool} : Je Tryz.prog kk .neq 66 .nils .nils = some (.bool false) := by cases kk <;> kernel_rfl
def JcF (N : Nat) (acc : List UInt8) : List V := Qi acc ++ List.replicate (N - acc.length) (.int .u8 0)
theorem Jf4 {N : Nat} {acc : List UInt8} (h : acc.length ≤ N) : (JcF N acc).length = N := by unfold JcF; simp [J5]; omega
theorem JgO {N : Nat} {acc r : List UInt8} (h : acc.length + r.length ≤ N) : over (JcF N acc) acc.length (Qi r) = JcF N (acc ++ r) := by
 unfold over JcF
 rw [List.take_append_of_le_length (by simp [J5]), List.take_of_length_le (by simp [J5]), Jcy]
 congr 1
 rw [List.drop_append, List.drop_of_length_le (by simp [J5]), List.nil_append, List.drop_replicate, J5, J5, List.length_append]
 congr 1
 omega
theorem Jlp {st : St} {id b N : Nat} {acc r : List UInt8} {fl : Bool} (hb : st.box.get id = some (.cells (JcF N acc) 5 true (some 0))) (hr : st.box.get b = some (.cells (Qi r) 5 fl none)) (h : acc.length + r.length ≤ N) (h0 : 0 < r.length) :
  JeH Tryz.prog st 66 (.ms id acc.length (N - acc.length) 1 (some (N - acc.length))) (.ms b 0 r.length 1 none) = some (.int .i64 (r.length : Int), st.put id (.cells (JcF N (acc ++ r)) 5 true (some 0))) := by
 obtain ⟨d, hd⟩ : ∃ d, N - acc.length = d + 1 := ⟨N - acc.length - 1, by omega⟩
 have h1 : Nat.ble (0 + r.length) (Qi r).length = true := Nat.ble_eq_true_of_le (by rw [J5]; omega)
 have h2 : Qj st 1 (.ms b 0 r.length 1 none) = some (Qi r, r.length) := by
  simp only [Qj, JJ, hr, Nat.mul_one, h1, sub, List.drop_zero]
  rw [List.take_of_length_le (by rw [J5]; exact Nat.le_refl _)]
 have h3 : Nat.ble (acc.length + (d + 1)) (JcF N acc).length = true := Nat.ble_eq_true_of_le (by rw [Jf4 (by omega)]; omega)
 have h4 : Nat.min (d + 1) r.length = r.length := Nat.min_eq_right (by omega)
 have h5 : Jb8 (some 0) acc.length = true := Nat.ble_eq_true_of_le (Nat.zero_le _)
 rw [hd]
 simp only [JeH, u91, z5, h2, hb, Nat.mul_one, h3, h4, h5, JfM, show Nat.beq (d + 1) 0 = false from rfl, Nat.beq_refl, Bool.and_self, Bool.not_false]
 rw [List.take_of_length_le (by rw [J5]; exact Nat.le_refl _), JgO h]
 rfl
theorem JjD {st : St} {id N c : Nat} {acc : List UInt8} (hc : c < 256) (hb : st.box.get id = some (.cells (JcF N acc) 5 true (some 0))) (h : acc.length < N) :
  JaN Tryz.prog st 5 (.ptr id acc.length) (.int .u8 (c : Int)) = some (st.put id (.cells (JcF N (acc ++ [UInt8.ofNat c])) 5 true (some 0))) := by
 rw [QB z5 hb (by rw [Jf4 (by omega)]; exact h) rfl, ← Jij _ _ _ (by rw [Jf4 (by omega)]; exact h)]
 have : [V.int .u8 (c : Int)] = Qi [UInt8.ofNat c] := by
  simp [Qi]; omega
 rw [this, JgO (by simp; omega)]
 rfl
theorem Jlq {st : St} {id : Nat} {acc : List UInt8} (hb : st.box.get id = some (.cells (JcF acc.length acc) 5 true (some 0))) : Jbx Tryz.prog st 66 9 (.ms id 0 acc.length 1 (some acc.length)) = some (.str (S.ofList acc)) := by
 have h0 : JcF acc.length acc = Qi acc := by unfold JcF; simp
 rw [h0] at hb
 have h1 : Nat.ble (0 + acc.length) (Qi acc).length = true := Nat.ble_eq_true_of_le (by rw [J5]; omega)
 simp only [Jbx, u91, u5, Tryz.underlying9, JJ, hb, Nat.mul_one, h1, sub, List.drop_zero]
 rw [List.take_of_length_le (by rw [J5]; exact Nat.le_refl _), Jet]
theorem Jlr {id j N : Nat} (h : j ≤ N) : QA Tryz.prog 66 (.ms id 0 N 1 (some N)) (some (.int .i64 (j : Int))) none = some (.ms id j (N - j) 1 (some (N - j))) := by
 have h1 : Nat.ble j N = true := Nat.ble_eq_true_of_le h
 simp only [QA, u91, JH, Qa, z5, h1, JbM, Jaq, Bool.and_self, Nat.beq_refl, JcR, Nat.mul_one, Nat.zero_add]
 rfl
variable [Memo] [NY]
set_option maxRecDepth 100000 in
theorem JmZ (gl : Gl) (st : St) (s x : S) (hx : x.n = 1) :
  Says Tryz.prog gl 216 [.str s, .str x] st (fun v st' => v = .int .i64 ((s.toList.count (UInt8.ofNat (x.at 0)) : Nat) : Int) ∧ Sm st st') := by
 refine Qb (NY.no _ rfl rfl rfl _ _) Tryz.func216 rfl (by kernel_rfl) fun R hR K gr gn => ?_
 generalize hfr : JC gl [.str s, .str x] = fr
 have hF : Fs gl [(0, .str s), (1, .str x)] fr := by subst hfr; simp [Fs]
 simp only [Fs] at hF
 clear hfr
 have hn : (Tryz.f218.name == "runtime.NumGoroutine") = false := by kernel_rfl
 have hc : ∀ st, JaA Tryz.prog (ihCall (W Tryz.prog)) gl 218 [.str s, .int .u8 ((x.at 0 : Nat) : Int)] st = .val (.int .i64 ((s.toList.count (UInt8.ofNat (x.at 0)) : Nat) : Int)) st := fun st => Jd2 Tryz.func218 hn rfl (Jgi s (x.at 0))
 have lx := QC (P := Tryz.prog) Tryz.underlying9 (s := x)
 rw [hx] at lx
 have hix := JY (P := Tryz.prog) (k := .i64) Tryz.underlying9 (s := x) (i := 0) (by omega)
 have hix' : JbN Tryz.prog 9 (.str x) (.int .i64 0) = some (.int .u8 ((x.at 0 : Nat) : Int)) := hix
 refine Ks_ (Ka_ (gs := [none]) fun K1 gK => ?_)
 simp (disch := omega) []
 refine gK _ _ (Ks_ (Ks_ (Ka_ (gs := [none, none, none]) fun K1 gK => ?_)))
 simp (disch := omega) [hF, lx]
 refine gK _ _ (Kf_ (by simp (disch := omega) []) (Kk_ (Ks_ (Ks_ (Ka_ (gs := [none, none, none]) fun K1 gK => ?_)))))
 simp (disch := omega) [hF, lx]
 refine gK _ _ (Kt_ (by simp (disch := omega) []) (Ks_ (Ka_ (gs := [none, none, none, none, none]) fun K1 gK => ?_)))
 simp (disch := omega) [hF, hc, hix']
 refine gK _ _ (Kq_ (gr _ _ ?_))
 simp [JW, Tryz.f216, hF]
 refine hR _ _ ?_
 exact ⟨rfl, rfl⟩
end Go.Vm
namespace Go.Vm
open Go Go.Proofs Go.Sy
set_option maxRecDepth 100000
attribute [local simp] OkS Q0 OkG Ql QG OkD Qf J8 JT Jj Jo vop Js Jy ev evs toV Jn Fr.dsTo Fr.glTo Fr.toNone Jk Jl Jm J6 Qe Jc Jz Jw V.undef JU JO Qn Qo Qt Qp Qu Qv JN Qw Qx Qy J7 Qz Ji Jt JG Jq JI Jp JX J2 Jv JM JP JS JK
def isQ (b : UInt8) : Bool := b == 34 || b == 36 || b == 92 || b == 96
def wqB (b : UInt8) : List UInt8 := cond (isQ b) [92, b] [b]
def wq (l : List UInt8) : List UInt8 := l.flatMap wqB
def tqL : List UInt8 := [96, 92, 34, 36]
theorem Jm0 (a b : List UInt8) : wq (a ++ b) = wq a ++ wq b := by simp [wq]
def cnQ (l : List UInt8) : Nat → Nat
 | 0 => 0
 | i + 1 => cnQ l i + l.count (tqL.getD i 0)
theorem JiB (l : List UInt8) {i : Nat} (h : i < 4) : cnQ l (i + 1) = cnQ l i + l.count (tqL[i]'h) := by
 rw [cnQ, List.getD_eq_getElem?_getD, List.getElem?_eq_getElem (show i < tqL.length from h)]; rfl
theorem Jks (l : List UInt8) : cnQ l 4 = l.count 96 + l.count 92 + l.count 34 + l.count 36 := by
 show 0 + l.count 96 + l.count 92 + l.count 34 + l.count 36 = _
 omega
theorem Jm1 {b : UInt8} (h1 : ¬ b = 34) (h2 : ¬ b = 36) (h3 : ¬ b = 92) (h4 : ¬ b = 96) : isQ b = false := by
 unfold isQ
 simp [h1, h2, h3, h4]
theorem JnS (b : UInt8) : (wqB b).length = 1 + ((if b = 96 then 1 else 0) + (if b = 92 then 1 else 0) + (if b = 34 then 1 else 0) + (if b = 36 then 1 else 0)) := by
 by_cases h1 : b = 34
 ·subst h1; rfl
 ·by_cases h2 : b = 36
  ·subst h2; rfl
  ·by_cases h3 : b = 92
   ·subst h3; rfl
   ·by_cases h4 : b = 96
    ·subst h4; rfl
    ·unfold wqB
     rw [Jm1 h1 h2 h3 h4, if_neg h1, if_neg h2, if_neg h3, if_neg h4]; rfl
theorem Jd7 (c b : UInt8) (l : List UInt8) : (b :: l).count c = l.count c + if b = c then 1 else 0 := by
 rw [List.count_cons]
 simp
theorem JjE : ∀ l : List UInt8, (wq l).length = l.length + cnQ l 4
 | [] => rfl
 | b :: l => by
  have ih := JjE l
  have h1 := JnS b
  rw [Jks] at ih ⊢
  rw [show wq (b :: l) = wqB b ++ wq l from by simp [wq], List.length_append, ih, List.length_cons, Jd7, Jd7, Jd7, Jd7, h1]
  omega
theorem Jev (l : List UInt8) : (wq l).length ≤ 2 * l.length := by
 induction l with
 | nil => simp [wq]
 | cons b l ih =>
  rw [show wq (b :: l) = wqB b ++ wq l from by simp [wq], List.length_append, List.length_cons]
  have : (wqB b).length ≤ 2 := by unfold wqB; cases isQ b <;> simp
  omega
theorem Jkt (l : List UInt8) : l.length ≤ (wq l).length := by rw [JjE]; omega
theorem Jku : ∀ {l : List UInt8}, l.any isQ = false → wq l = l
 | [], _ => rfl
 | b :: l, h => by
  rw [List.any_cons, Bool.or_eq_false_iff] at h
  rw [show wq (b :: l) = wqB b ++ wq l from by simp [wq], Jku h.2]
  unfold wqB
  rw [h.1]; rfl
theorem JoH (l : List UInt8) : l.any isQ = !decide (cnQ l 4 = 0) := by
 rw [Jks, Bool.eq_iff_iff]
 simp only [List.any_eq_true, Bool.not_eq_true', decide_eq_false_iff_not]
 constructor
 ·rintro ⟨b, hb, hq⟩ h0
  have h1 : ∀ c : UInt8, c = 96 ∨ c = 92 ∨ c = 34 ∨ c = 36 → l.count c = 0 := by
   rintro c (rfl | rfl | rfl | rfl) <;> omega
  unfold isQ at hq
  simp only [Bool.or_eq_true, beq_iff_eq] at hq
  have := h1 b (by rcases hq with ((h | h) | h) | h <;> simp [h])
  rw [List.count_eq_zero] at this
  exact this hb
 ·intro h
  by_cases a : l.count 96 = 0
  ·by_cases b : l.count 92 = 0
   ·by_cases c : l.count 34 = 0
    ·exact ⟨36, List.count_pos_iff.1 (by omega), rfl⟩
    ·exact ⟨34, List.count_pos_iff.1 (by omega), rfl⟩
   ·exact ⟨92, List.count_pos_iff.1 (by omega), rfl⟩
  ·exact ⟨96, List.count_pos_iff.1 (by omega), rfl⟩
theorem JoI {s : S} {j : Nat} (h : j < s.n) : (s.toList.take (j + 1)).any isQ = ((s.toList.take j).any isQ || isQ (UInt8.ofNat (s.at j))) := by
 rw [Jjd s h, List.any_append, List.any_cons, List.any_nil, Bool.or_false]
theorem Jkv {s : S} {j : Nat} (h : j < s.n) : wq (s.toList.take (j + 1)) = wq (s.toList.take j) ++ wqB (UInt8.ofNat (s.at j)) := by
 rw [Jjd s h, Jm0]; simp [wq]
theorem JnT {s : S} {j : Nat} (h : j < s.n) : (wq (s.toList.take j)).length + (wqB (UInt8.ofNat (s.at j))).length ≤ (wq s.toList).length := by
 have h1 : wq s.toList = wq (s.toList.take (j + 1)) ++ wq (s.toList.drop (j + 1)) := by rw [← Jm0, List.take_append_drop]
 rw [h1, Jkv h]; simp
def JiC (bx : Nat → Nat) (i : Nat) : V := cond (isQ (UInt8.ofNat i)) (.ms (bx i) 0 2 1 none) .nils
def TC (bx : Nat → Nat) (a : Nat) : List V := (List.range 256).map (JiC bx) ++ [.ms a 0 4 1 (some 4)]
theorem Jpu {bx : Nat → Nat} {a i : Nat} (h : i < 256) : (TC bx a)[i]? = some (JiC bx i) := by
 unfold TC
 rw [List.getElem?_append_left (by simpa using h), List.getElem?_map, List.getElem?_range h]; rfl
theorem JoJ {bx : Nat → Nat} {a : Nat} : (TC bx a)[256]? = some (.ms a 0 4 1 (some 4)) := by
 unfold TC
 rw [List.getElem?_append_right (by simp)]; simp
def tqS : List S := tqL.map fun b => S.ofList [b]
structure RBt (st : St) (t a : Nat) (bx : Nat → Nat) : Prop where
 tb : st.box.get t = some (.cells (TC bx a) 180 true (some 0))
 ab : st.box.get a = some (.cells (tqS.map .str) 9 true (some 0))
 bb : ∀ c, c < 256 → isQ (UInt8.ofNat c) = true → st.box.get (bx c) = some (.cells [.int .u8 92, .int .u8 (c : Int)] 5 false none) ∧ bx c < st.ctr
 tlt : t < st.ctr
 alt : a < st.ctr
theorem RBt.keep {st st' : St} {t a : Nat} {bx : Nat → Nat} (h : RBt st t a bx) (k : Keep st st') : RBt st' t a bx :=
 ⟨by rw [k.box _ h.tlt]; exact h.tb, by rw [k.box _ h.alt]; exact h.ab, fun c hc hq => by rw [k.box _ (h.bb c hc hq).2]; exact ⟨(h.bb c hc hq).1, Nat.lt_of_lt_of_le (h.bb c hc hq).2 k.ctr⟩, Nat.lt_of_lt_of_le h.tlt k.ctr, Nat.lt_of_lt_of_le h.alt k.ctr⟩
theorem tld {st : St} {t a c : Nat} {bx : Nat → Nat} (h : RBt st t a bx) (hc : c < 256) : JB Tryz.prog st 66 (.ptr t c) = some (JiC bx c) := Jf a91 z91 h.tb (Jpu hc)
theorem Jp0 {st : St} {t a : Nat} {bx : Nat → Nat} (h : RBt st t a bx) : JB Tryz.prog st 31 (.ptr t 256) = some (.ms a 0 4 1 (some 4)) := Jf JpQ JpP h.tb JoJ
theorem RBt.vw {st : St} {t a : Nat} {bx : Nat → Nat} (h : RBt st t a bx) : Vw st (.ms a 0 4 1 (some 4)) tqS :=
 .ms a 0 (some 4) _ 9 true (some 0) tqS h.ab (fun i hi => by
  have hi : i < 4 := hi
  match i, hi with
  | 0, _ => rfl
  | 1, _ => rfl
  | 2, _ => rfl
  | 3, _ => rfl) (by simp [tqS, tqL]) h.alt (by simp [JbM, tqS, tqL, Jaq])
theorem JoK (b : UInt8) : (S.ofList [b]).n = 1 ∧ (S.ofList [b]).at 0 = b.toNat := by
 refine ⟨rfl, ?_⟩
 have h1 := (S.ofList [b]).toList_at (i := 0) (by show 0 < 1; omega)
 rw [S.toList_ofList] at h1
 have h2 := Option.some.inj h1
 have h3 := (S.ofList [b]).at_lt 0
 have h4 := congrArg UInt8.toNat h2
 rw [UInt8.toNat_ofNat'] at h4
 have h5 : (S.ofList [b]).at 0 % 2 ^ 8 = (S.ofList [b]).at 0 := Nat.mod_eq_of_lt (by simpa using h3)
 rw [h5] at h4
 exact h4.symm
theorem Jpv {i : Nat} (h : i < 4) : (tqS[i]'h).n = 1 ∧ (tqS[i]'h).at 0 = (tqL[i]'h).toNat ∧ isQ (UInt8.ofNat (tqL[i]'h).toNat) = true ∧ JbN Tryz.prog 9 (.str (tqS[i]'h)) (.int .i64 0) = some (.int .u8 (((tqL[i]'h).toNat : Nat) : Int)) := by
 have e : tqS[i]'h = S.ofList [tqL[i]'h] := by
  match i, h with
  | 0, _ => rfl
  | 1, _ => rfl
  | 2, _ => rfl
  | 3, _ => rfl
 obtain ⟨h1, h2⟩ := JoK (tqL[i]'h)
 rw [e]
 refine ⟨h1, h2, ?_, ?_⟩
 ·match i, h with
  | 0, _ => rfl
  | 1, _ => rfl
  | 2, _ => rfl
  | 3, _ => rfl
 ·have := JY (P := Tryz.prog) (k := .i64) Tryz.underlying9 (s := S.ofList [tqL[i]'h]) (i := 0) (by rw [h1]; omega)
  rw [h2] at this
  exact this
variable [Memo] [NY]
set_option maxHeartbeats 8000000 in
set_option maxRecDepth 100000 in
theorem JoL (gl : Gl) (st : St) (t a : Nat) (bx : Nat → Nat) (s : S) (hT : RBt st t a bx) (hs : s.n ≤ 100000) :
  Says Tryz.prog gl 214 [.ptr t 0, .str s] st (fun v st' => (∃ u : S, v = .str u ∧ u.toList = wq s.toList) ∧ Keep st st') := by
 refine Qb (NY.no _ rfl rfl rfl _ _) Tryz.func214 rfl (by kernel_rfl) fun R hR K gr gn => ?_
 generalize hfr : JC gl [.ptr t 0, .str s] = fr
 have hF : Fs gl [(0, .ptr t 0), (1, .str s)] fr := by subst hfr; simp [Fs]
 simp only [Fs] at hF
 clear hfr
 have ls := QC Tryz.underlying9 (s := s)
 have lr := Jp0 hT
 have llr : QU Tryz.prog 31 (.ms a 0 4 1 (some 4)) = some (.int .i64 4) := by simp only [QU, Tryz.underlying31]; rfl
 have hmul : ∀ kk, Je Tryz.prog kk .mul 3 (.int .i64 4) (.int .i64 8) = some (.int .i64 32) := fun kk => by cases kk <;> kernel_rfl
 have hl16 : ∀ kk, Je Tryz.prog kk .leq 3 (.int .i64 32) (.int .i64 (s.n : Int)) = some (.bool (decide (32 ≤ s.n))) := fun kk => by
  have := Qp (P := Tryz.prog) (kk := kk) (T := 3) (q := .i64) (a := 32) (b := s.n)
  exact this
 have hl2 : ∀ b, QU Tryz.prog 66 (.ms b 0 2 1 none) = some (.int .i64 2) := fun b => by simp only [QU, u91]; rfl
 have vqm : ∀ b, veq 1000000000 (.ms b 0 2 1 none) (.ms b 0 2 1 none) = true := fun b => Jag _ (Nat.le_of_ble_eq_true rfl)
 refine Ks_ (Ka_ (gs := [none]) fun K1 gK => ?_)
 simp (disch := omega) []
 refine gK _ _ (Ks_ (Ka_ (gs := [none, none, none]) fun K1 gK => ?_))
 simp (disch := omega) [hF, ls]
 refine gK _ _ (Ks_ (Ka_ (gs := [none]) fun K1 gK => ?_))
 simp (disch := omega) []
 refine gK _ _ (Ks_ (Ks_ (Ka_ (gs := [none, none, none, none, none, none, none, none, none]) fun K1 gK => ?_)))
 simp (disch := omega) [hF, ls, ft1, lr, llr, hmul, hl16]
 refine gK _ _ ?_
 refine Km_ (fun fr st' => Fs gl [(0, .ptr t 0), (1, .str s), (5, .int .i64 ((wq s.toList).length : Int)), (6, .bool (s.toList.any isQ))] fr ∧ Keep st st') ?_ ?_
 ·as_aux_lemma =>
  intro K1 gm1 go1
  by_cases h16 : 32 ≤ s.n
  ·
   refine Kt_ (by simp (disch := omega) [h16]) ?_
   have hlen := JjE s.toList
   have hhas := JoH s.toList
   have hle := Jev s.toList
   rw [S.len] at hlen hle
   refine Ks_ (Ka_ (gs := [none, none, none, none, none, none]) fun K1 gK => ?_)
   simp (disch := omega) [hF, ft1, lr, llr, h16]
   refine gK _ _ ?_
   refine Kl_ (4) (fun i fr st' => Fs gl [(0, .ptr t 0), (1, .str s), (5, .int .i64 (((s.n + cnQ s.toList i) : Nat) : Int)), (6, .bool (!decide (cnQ s.toList i = 0))), (30, .ms a 0 4 1 (some 4)), (31, .int .i64 4), (32, .int .i64 (i : Int))] fr ∧ i ≤ 4 ∧ Keep st st') (0) (fun fr st' => Fs gl [(0, .ptr t 0), (1, .str s), (5, .int .i64 ((wq s.toList).length : Int)), (6, .bool (s.toList.any isQ))] fr ∧ Keep st st') ?_ ?_ ?_ ?_
   ·exact ⟨by simp [Fs, hF, cnQ],  Nat.zero_le _, .refl _⟩
   ·rintro i fr st' ⟨_, hi, hk⟩
    omega
   ·as_aux_lemma =>
    clear hF
    rintro i fr st' ⟨hF, hi, hk⟩ K2 gk2 gx2 go2
    simp only [Fs] at hF
    refine Ks_ (Ka_ (gs := [none]) fun K1 gK => ?_)
    simp (disch := omega) [hF]
    refine gK _ _ (Ks_ ?_)
    by_cases hlt : i < 4
    ·
     refine Kt_ (by simp (disch := omega) [hlt]) ?_
     have hT' := hT.keep hk
     have hvw := hT'.vw
     obtain ⟨tn, ta, tq, tx⟩ := Jpv hlt
     obtain ⟨c, hc⟩ : ∃ c, (tqL[i]'hlt).toNat = c := ⟨_, rfl⟩
     rw [hc] at ta tq tx
     have hcl : c < 256 := by rw [← hc]; exact UInt8.toNat_lt _
     have hti := tix (t := t) hcl
     have htl := fun n => (JG (P := Tryz.prog) (st := st') (c := n) (T := 66) (a := .ptr t c)).trans (tld hT' hcl)
     have hrp : JiC bx c = .ms (bx c) 0 2 1 none := by unfold JiC; rw [tq]; rfl
     rw [hrp] at htl
     have hxi := hvw.ix Tryz.underlying31 z9 (k := .i64) (a := (i : Int)) (by omega) (by show (i : Int) < ((4 : Nat) : Int); omega)
     have hxd := hvw.ld z9 a9 (i := i) hlt
     obtain ⟨v, q1, hcc, rfl, hq1⟩ := Says.use (JmZ gl st' s (tqS[i]'hlt) tn)
     rw [show q1 = st' from hq1, ta] at hcc
     clear hq1
     have hst := JiB s.toList hlt
     have hcU : UInt8.ofNat c = tqL[i]'hlt := by rw [← hc]; simp
     rw [hcU] at hcc
     have hct : s.toList.count (tqL[i]'hlt) ≤ s.n := by have := List.count_le_length (a := tqL[i]'hlt) (l := s.toList); rwa [S.len] at this
     have hci : cnQ s.toList i ≤ 400000 := by
      have : ∀ k, k ≤ 4 → cnQ s.toList k ≤ k * s.n := fun k => by
       induction k with
       | zero => intro _; simp [cnQ]
       | succ k ih =>
        intro hk4
        have h1 := JiB s.toList (show k < 4 by omega)
        have h2 := List.count_le_length (a := tqL[k]'(show k < 4 by omega)) (l := s.toList)
        rw [S.len] at h2
        have := ih (by omega)
        rw [Nat.succ_mul]; omega
      have := this i (by omega)
      have : i * s.n ≤ 4 * s.n := Nat.mul_le_mul_right _ (by omega)
      omega
     generalize s.toList.count (tqL[i]'hlt) = cc at hcc hst hct
     have k14 : Keep st { ctr := st'.ctr + 14, box := st'.box } := hk.tick 14
     refine Kk_ (Ks_ ?_)
     refine Kb_ fun K3 gn3 gx3 go3 => ?_
     refine Ks_ (Ka_ (gs := [none, none, none]) fun K1 gK => ?_)
     simp (disch := omega) [hF, hlt, hxi, hxd]
     refine gK _ _ (Ks_ (Ka_ (gs := [none, none, none, none]) fun K1 gK => ?_))
     simp (disch := omega) [hF, hcc]
     refine gK _ _ (Ks_ (Ka_ (gs := [none, none]) fun K1 gK => ?_))
     simp (disch := omega) []
     refine gK _ _ ?_
     by_cases hz : cc = 0
     ·
      refine Kf_ (by simp (disch := omega) [hz]) (Kk_ (gn3 _ _ (Ka_ (gs := [none, none]) fun K1 gK => ?_)))
      simp (disch := omega) [hF, hz]
      refine gK _ _ ?_
      refine gk2 (i + 1) _ _ (by omega) ⟨by (rw [hst, hz]; simp [Fs, hF]),  by omega, hk⟩
     ·
      refine Kt_ (by simp (disch := omega) [hz]) (Ks_ (Kh_ (b := [0, 0, 0, 0, 8, 4, 36, 124, 252, 508, 1020, 2046, 4095, 8191]) (gs := [none, none, none, none, none, none, none, none, none, none, none, none, none, none]) fun K1 gK => ?_))
      simp (disch := omega) [hF, ft0, hl2, vqm, hti, htl, tx, JaO, hz]
      refine gK _ _ (Ka_ (gs := [none]) fun K1 gK => ?_)
      simp (disch := omega) []
      refine gK _ _ (gn3 _ _ (Ka_ (gs := [none, none]) fun K1 gK => ?_))
      simp (disch := omega) [hF]
      refine gK _ _ ?_
      refine gk2 (i + 1) _ _ (by omega) ⟨by (rw [hst]; simp [Fs, hF]; omega),  by omega, k14⟩
    ·
     refine Kf_ (by simp (disch := omega) [hlt]) ?_
     exact Kx_ (gx2 _ _ ⟨by (have hi2 : i = 4 := (by omega); subst hi2; rw [hhas, hlen]; simp [Fs, hF]),  hk⟩)
   ·as_aux_lemma =>
    clear hF
    rintro fr st' ⟨hF, hk⟩
    simp only [Fs] at hF
    exact gm1 _ _ ⟨by simp [Fs, hF], hk⟩
  ·
   refine Kf_ (by simp (disch := omega) [h16]) (Ks_ (Ka_ (gs := [none]) fun K1 gK => ?_))
   simp (disch := omega) [h16]
   refine gK _ _ ?_
   refine Kl_ (s.n) (fun j fr st' => Fs gl [(0, .ptr t 0), (1, .str s), (5, .int .i64 ((s.n + ((wq (s.toList.take j)).length - j) : Nat) : Int)), (6, .bool ((s.toList.take j).any isQ)), (10, .int .i64 (j : Int))] fr ∧ j ≤ s.n ∧ st = st') (0) (fun fr st' => Fs gl [(0, .ptr t 0), (1, .str s), (5, .int .i64 ((wq s.toList).length : Int)), (6, .bool (s.toList.any isQ))] fr ∧ st = st') ?_ ?_ ?_ ?_
   ·exact ⟨by simp [Fs, hF, wq],  Nat.zero_le _, rfl⟩
   ·rintro j fr st' ⟨_, hj, rfl⟩
    omega
   ·as_aux_lemma =>
    clear hF
    rintro j fr st' ⟨hF, hj, rfl⟩ K4 gk4 gx4 go4
    simp only [Fs] at hF
    refine Ks_ (Ks_ (Ka_ (gs := [none, none, none, none]) fun K1 gK => ?_))
    simp (disch := omega) [hF, ls]
    refine gK _ _ ?_
    by_cases hlt : j < s.n
    ·
     refine Kt_ (by simp (disch := omega) [hlt]) ?_
     have hix := JY (P := Tryz.prog) (k := .i64) Tryz.underlying9 hlt
     have hcl := S.at_lt s j
     have hti := tix (t := t) hcl
     have htl := tld hT hcl
     have hht := JoI hlt
     have het := Jkv hlt
     have hej := Jkt (s.toList.take j)
     have hej2 := Jev (s.toList.take j)
     rw [List.length_take, S.len] at hej2 hej
     obtain ⟨Q, hQ⟩ : ∃ b, isQ (UInt8.ofNat (s.at j)) = b := ⟨_, rfl⟩
     rw [hQ] at hht
     unfold wqB at het
     rw [hQ] at het
     unfold JiC at htl
     rw [hQ] at htl
     cases Q with
     | true =>
      refine Kk_ (Ks_ ?_)
      refine Kb_ fun K5 gn5 gx5 go5 => ?_
      refine Ks_ (Ka_ (gs := [none, none, none, none]) fun K1 gK => ?_)
      simp (disch := omega) [hF, hlt, hix]
      refine gK _ _ (Ks_ (Ka_ (gs := [none, none, none, none, none, none, none]) fun K1 gK => ?_))
      simp (disch := omega) [hF, ft0, hti, htl, JaS]
      refine gK _ _ (Kt_ (by simp (disch := omega) []) (Ks_ (Ka_ (gs := [none, none, none, none, none, none, none, none, none, none, none]) fun K1 gK => ?_)))
      simp (disch := omega) [hF, ft0, hl2, hti, htl]
      refine gK _ _ (Ka_ (gs := [none]) fun K1 gK => ?_)
      simp (disch := omega) []
      refine gK _ _ (gn5 _ _ (Ka_ (gs := [none, none, none]) fun K1 gK => ?_))
      simp (disch := omega) [hF]
      refine gK _ _ ?_
      refine gk4 (j + 1) _ _ (by omega) ⟨by (rw [hht, het]; simp [Fs, hF]; omega),  by omega, rfl⟩
     | false =>
      refine Kk_ (Ks_ ?_)
      refine Kb_ fun K6 gn6 gx6 go6 => ?_
      refine Ks_ (Ka_ (gs := [none, none, none, none]) fun K1 gK => ?_)
      simp (disch := omega) [hF, hlt, hix]
      refine gK _ _ (Ks_ (Ka_ (gs := [none, none, none, none, none, none, none]) fun K1 gK => ?_))
      simp (disch := omega) [hF, ft0, hti, htl, QT]
      refine gK _ _ (Kf_ (by simp (disch := omega) []) (Kk_ (gn6 _ _ (Ka_ (gs := [none, none, none]) fun K1 gK => ?_))))
      simp (disch := omega) [hF]
      refine gK _ _ ?_
      refine gk4 (j + 1) _ _ (by omega) ⟨by (rw [hht, het]; simp [Fs, hF]; try omega),  by omega, rfl⟩
    ·
     refine Kf_ (by simp (disch := omega) [hlt]) ?_
     exact Kx_ (gx4 _ _ ⟨by (rw [List.take_of_length_le (by rw [S.len]; omega)] at hF; simp [Fs, hF]; have hec := Jkt s.toList; rw [S.len] at hec; omega),  rfl⟩)
   ·as_aux_lemma =>
    clear hF
    rintro fr st' ⟨hF, rfl⟩
    simp only [Fs] at hF
    exact gm1 _ _ ⟨by simp [Fs, hF], .refl _⟩
 ·as_aux_lemma =>
  clear hF
  rintro fr st' ⟨hF, hk⟩
  simp only [Fs] at hF
  generalize hA : s.toList.any isQ = A at hF
  have hel := Jev s.toList
  rw [S.len] at hel
  obtain ⟨N, hN⟩ : ∃ N, (wq s.toList).length = N := ⟨_, rfl⟩
  rw [hN] at hF hel
  obtain ⟨i5', hi5, hz5, hz5'⟩ := i5
  have hvm : Jgz Tryz.prog st' 66 (.int .i64 (N : Int)) (.int .i64 (N : Int)) = some (.ms st'.ctr 0 N 1 (some N), { ctr := st'.ctr + 1, box := st'.box.put st'.ctr (.cells (List.replicate N (.int .u8 0)) 5 true (some 0)) }) :=
   Jle u91 hi5 zs5 hz5 rfl (Nat.le_trans (Nat.mul_le_mul hz5' (show N ≤ 200000 by omega)) (by simp [Jr])) (by simp [Jr]; omega)
  obtain ⟨q1, hq1⟩ : ∃ q : St, q = { ctr := st'.ctr + 1, box := st'.box.put st'.ctr (.cells (List.replicate N (.int .u8 0)) 5 true (some 0)) } := ⟨_, rfl⟩
  rw [← hq1] at hvm
  have kq : Keep st' q1 := by rw [hq1]; exact (Keep.refl st').new _
  have cq : q1.ctr = st'.ctr + 1 := by rw [hq1]
  have gq : q1.box.get st'.ctr = some (.cells (JcF N []) 5 true (some 0)) := by rw [hq1]; simp [Tr.get_put, JcF, Qi]
  have cst := hk.ctr
  obtain ⟨id, hid⟩ : ∃ id, st'.ctr = id := ⟨_, rfl⟩
  rw [hid] at hvm gq cq cst
  refine Ks_ (Ks_ (Ka_ (gs := [none, none]) fun K1 gK => ?_))
  simp (disch := omega) [hF]
  refine gK _ _ ?_
  cases A with
  | true =>
   refine Kf_ (by simp (disch := omega) []) (Kk_ (Ks_ (Ka_ (gs := [none, none, none]) fun K1 gK => ?_)))
   simp (disch := omega) [hF, hvm]
   refine gK _ _ (Ks_ (Ka_ (gs := [none]) fun K1 gK => ?_))
   simp (disch := omega) []
   refine gK _ _ (Ks_ (Ks_ (Ka_ (gs := [none]) fun K1 gK => ?_)))
   simp (disch := omega) []
   refine gK _ _ ?_
   refine Kl_ (s.n) (fun j fr st' => Fs gl [(0, .ptr t 0), (1, .str s), (12, .ms id 0 N 1 (some N)), (13, .int .i64 ((wq (s.toList.take j)).length : Int)), (14, .int .i64 (j : Int))] fr ∧ j ≤ s.n ∧ Keep st st' ∧ id < st'.ctr ∧ st'.box.get id = some (.cells (JcF N (wq (s.toList.take j))) 5 true (some 0))) (0) (fun fr st' => Fs gl [(12, .ms id 0 N 1 (some N))] fr ∧ Keep st st' ∧ id < st'.ctr ∧ st'.box.get id = some (.cells (JcF N (wq s.toList)) 5 true (some 0))) ?_ ?_ ?_ ?_
   ·exact ⟨by simp [Fs, hF, wq],  Nat.zero_le _, hk.trans kq, by omega, by simpa [wq] using gq⟩
   ·rintro j fr st' ⟨_, hj, hk, hic, hbuf⟩
    omega
   ·as_aux_lemma =>
    clear hF
    rintro j fr st' ⟨hF, hj, hk, hic, hbuf⟩ K7 gk7 gx7 go7
    simp only [Fs] at hF
    refine Ks_ (Ks_ (Ka_ (gs := [none, none, none, none]) fun K1 gK => ?_))
    simp (disch := omega) [hF, ls]
    refine gK _ _ ?_
    by_cases hlt : j < s.n
    ·
     refine Kt_ (by simp (disch := omega) [hlt]) ?_
     have hix := JY (P := Tryz.prog) (k := .i64) Tryz.underlying9 hlt
     have hcl := S.at_lt s j
     have hti := tix (t := t) hcl
     have hT' := hT.keep hk
     have htl := fun c => (JG (P := Tryz.prog) (st := st') (c := c) (T := 66) (a := .ptr t (s.at j))).trans (tld hT' hcl)
     have htl' := tld hT' hcl
     have het := Jkv hlt
     have hroom := JnT hlt
     rw [hN] at hroom
     generalize wq (s.toList.take j) = acc at hF hbuf het hroom
     obtain ⟨Q, hQ⟩ : ∃ b, isQ (UInt8.ofNat (s.at j)) = b := ⟨_, rfl⟩
     unfold wqB at het hroom
     rw [hQ] at het hroom
     unfold JiC at htl htl'
     rw [hQ] at htl htl'
     have hbb := hT'.bb _ hcl
     rw [hQ] at hbb
     generalize hcj : s.at j = cj at hix hti htl htl' het hroom hbb hcl
     cases Q with
     | true =>
      have hbuf2 : ({ ctr := st'.ctr + 13, box := st'.box } : St).box.get id = some (.cells (JcF N acc) 5 true (some 0)) := hbuf
      have hbj : st'.box.get (bx cj) = some (Bx.cells (Qi [92, UInt8.ofNat cj]) 5 false none) := by
       rw [(hbb rfl).1]
       have : Qi [92, UInt8.ofNat cj] = [.int .u8 92, .int .u8 (cj : Int)] := by simp [Qi]; omega
       rw [this]
      have hcpy := Jlp (r := [92, UInt8.ofNat cj]) hbuf2 hbj (by simpa using hroom) (by simp)
      have hbs := Jlr (id := id) (j := acc.length) (N := N) (by simp at hroom; omega)
      have hcpy2 : JeH Tryz.prog { ctr := st'.ctr + 13, box := st'.box } 66 (.ms id acc.length (N - acc.length) 1 (some (N - acc.length))) (.ms (bx cj) 0 2 1 none) = some (.int .i64 2, ({ ctr := st'.ctr + 13, box := st'.box } : St).put id (.cells (JcF N (acc ++ [92, UInt8.ofNat cj])) 5 true (some 0))) := hcpy
      refine Kk_ (Ks_ ?_)
      refine Kb_ fun K8 gn8 gx8 go8 => ?_
      refine Ks_ (Ka_ (gs := [none, none, none, none]) fun K1 gK => ?_)
      simp (disch := omega) [hF, hlt, hix]
      refine gK _ _ (Ks_ (Ka_ (gs := [none, none, none, none, none, none, none]) fun K1 gK => ?_))
      simp (disch := omega) [hF, ft0, hti, htl', JaS]
      refine gK _ _ (Kt_ (by simp (disch := omega) []) (Kj_ (b := [0, 0, 0, 6, 0, 0, 16, 80, 240, 496, 1022, 2047, 4095]) (rs := [(1, 10), (0, 1), (11, 2)]) fun K1 gK => ?_))
      simp (disch := omega) [hF, ft0, vqm, hti, htl, hbs, hcpy2]
      refine gK _ _ (gn8 _ _ (Ka_ (gs := [none, none, none]) fun K1 gK => ?_))
      simp (disch := omega) [hF]
      refine gK _ _ ?_
      refine gk7 (j + 1) _ _ (by omega) ⟨by (simp only [het]; simp [Fs, hF]),  by omega, (hk.tick 13).put' (by omega) _, by (show id < st'.ctr + 13; omega), by rw [het, QD, if_pos rfl]; rfl⟩
     | false =>
      have hst := JjD hcl hbuf (by simp at hroom; omega)
      have hbx : Jd Tryz.prog 66 (.ms id 0 N 1 (some N)) (.int .i64 (acc.length : Int)) = some (.ptr id acc.length) := by
       have := Jb9 (P := Tryz.prog) (t := 66) (id := id) (off := 0) (n := N) (z := 1) (i := acc.length) (cap := some N) (k := .i64) u91 z5 (by simp at hroom; omega)
       simpa using this
      refine Kk_ (Ks_ ?_)
      refine Kb_ fun K9 gn9 gx9 go9 => ?_
      refine Ks_ (Ka_ (gs := [none, none, none, none]) fun K1 gK => ?_)
      simp (disch := omega) [hF, hlt, hix]
      refine gK _ _ (Ks_ (Ka_ (gs := [none, none, none, none, none, none, none]) fun K1 gK => ?_))
      simp (disch := omega) [hF, ft0, hti, htl', QT]
      refine gK _ _ (Kf_ (by simp (disch := omega) []) (Ks_ (Ka_ (gs := [none, none, none, none, none]) fun K1 gK => ?_)))
      simp (disch := omega) [hF, hst, hbx]
      refine gK _ _ (Ka_ (gs := [none, none, none]) fun K1 gK => ?_)
      simp (disch := omega) [hF]
      refine gK _ _ (gn9 _ _ (Ka_ (gs := [none, none, none]) fun K1 gK => ?_))
      simp (disch := omega) [hF]
      refine gK _ _ ?_
      refine gk7 (j + 1) _ _ (by omega) ⟨by (simp only [het]; simp [Fs, hF]),  by omega, hk.put' (by omega) _, hic, by rw [het, QD, if_pos rfl]; rfl⟩
    ·
     refine Kf_ (by simp (disch := omega) [hlt]) ?_
     exact Kx_ (gx7 _ _ ⟨by simp [Fs, hF, hlt], hk, hic, by rw [List.take_of_length_le (by rw [S.len]; omega)] at hbuf; exact hbuf⟩)
   ·as_aux_lemma =>
    clear hF
    rintro fr st' ⟨hF, hk, hic, hbuf⟩
    simp only [Fs] at hF
    have hcv : Jbx Tryz.prog st' 66 9 (.ms id 0 N 1 (some N)) = some (.str (S.ofList (wq s.toList))) := by
     rw [← hN]
     rw [← hN] at hbuf
     exact Jlq hbuf
    refine Ks_ (Ka_ (gs := [none, none, none]) fun K1 gK => ?_)
    simp (disch := omega) [hF, hcv]
    refine gK _ _ (Kq_ (gr _ _ ?_))
    simp [JW, Tryz.f214, hF]
    refine hR _ _ ?_
    exact ⟨⟨_, rfl, S.toList_ofList _⟩, hk⟩
  | false =>
   refine Kt_ (by simp (disch := omega) []) (Ks_ (Ka_ (gs := [none, none]) fun K1 gK => ?_))
   simp (disch := omega) [hF]
   refine gK _ _ (Kq_ (gr _ _ ?_))
   simp [JW, Tryz.f214, hF]
   refine hR _ _ ?_
   exact ⟨⟨s, rfl, (Jku hA).symm⟩, hk⟩
end Go.Vm
namespace Go.Vm
open Go Go.Proofs Go.Sy
set_option maxRecDepth 100000
attribute [local simp] OkG Ql QG OkD Qf J8 JT Jj Jo vop Js Jy ev evs toV Jn Fr.dsTo Fr.glTo Fr.toNone Jk Jl Jm J6 Qe Jc Jz Jw V.undef JU JO Qn Qo Qt Qp Qu Qv JN Qw Qx Qy J7 Qz Ji Jt JG Jq JI Jp JX J2 Jv JM JP JS JK
def oldsV : List V := [.str (S.ofList [36]), .str (S.ofList [92, 36]), .str (S.ofList [34]), .str (S.ofList [92, 34]), .str (S.ofList [92]), .str (S.ofList [92, 92]), .str (S.ofList [96]), .str (S.ofList [92, 96])]
structure Raw (st : St) (r o : Nat) : Prop where
 rb : st.box.get r = some (.cells [.int .u32 0, .int .i32 0, .int .u32 0, .nili, .ms o 0 8 1 none] 149 true (some 0))
 ob : st.box.get o = some (.cells oldsV 9 false (some 0))
 rlt : r < st.ctr
 olt : o < st.ctr
 ne : r ≠ o
structure Bui (st : St) (r t a : Nat) (bx : Nat → Nat) : Prop where
 rb : st.box.get r = some (.cells [.int .u32 1, .int .i32 0, .int .u32 0, .iface 181 (.ptr t 0), .nils] 149 true (some 0))
 rlt : r < st.ctr
 tb : RBt st t a bx
theorem fo1 (r : Nat) : JD Tryz.prog 145 (.ptr r 0) 1 = some (.ptr r 0) := by kernel_rfl
theorem fo2 (r : Nat) : JD Tryz.prog 139 (.ptr r 0) 1 = some (.ptr r 0) := by kernel_rfl
theorem fo3 (r : Nat) : JD Tryz.prog 149 (.ptr r 0) 0 = some (.ptr r 0) := by kernel_rfl
theorem fo4 (r : Nat) : JD Tryz.prog 149 (.ptr r 0) 1 = some (.ptr r 3) := by kernel_rfl
theorem z76 : JR Tryz.prog 147 = some 1 := by kernel_rfl
theorem a76 : QO Tryz.prog 147 = some false := by kernel_rfl
theorem JoM (kk : Bool) (T : TypeId) : Je Tryz.prog kk .neq T (.int .u32 1) (.int .u32 0) = some (.bool true) := by rw [JfW]; rfl
theorem Jfh : Jfb Tryz.prog 181 "Replace" = some 214 := by kernel_rfl
theorem JoN [Memo] {gl : Gl} {st : St} {r : Nat} {n : Int} {l : List V} {e : TypeId} {fl : Bool} {fz : Option Nat} (hb : st.box.get r = some (.cells (V.int .u32 n :: l) e fl fz)) : JaA Tryz.prog (ihCall (W Tryz.prog)) gl 149 [.ptr r 0] st = .val (.int .u32 n) st := by
 have hn : Extern.findNext Tryz.f149 = none := by kernel_rfl
 have hx : Jal Tryz.prog Tryz.f149 [.ptr r 0] = none := by
  simp only [Jal, hn]
  cases Extern.find Tryz.f149 with
  | none => rfl
  | some e => rfl
 have hd : JgA Tryz.prog Tryz.f149 [.ptr r 0] st = some (.int .u32 n, st) := by
  show (match st.box.get r with
   | some (Bx.cells cs _ _ _) => (match cs[0]? with
    | some (V.int .u32 n) => some (V.int .u32 n, st)
    | _ => none)
   | _ => none) = _
  rw [hb]
  rfl
 simp only [JaA, Tryz.func149, show (Tryz.f149.name == "runtime.NumGoroutine") = false from by kernel_rfl, show Tryz.f149.body = none from rfl, hx, hn, hd]
class NO [Memo] : Prop where
 done : ∀ (st : St) (r : Nat) (g : V) (l : List V), st.box.get r = some (.cells (V.int .u32 1 :: l) 149 true (some 0)) → (Memo.look 124).run [.ptr r 0, g] st = none
 fresh : ∀ (st : St) (r o : Nat), Raw st r o → ∃ st' t a bx, (Memo.look 124).run [.ptr r 0, .fn 125 [.ptr r 0] []] st = some (.tup [], st') ∧ Bui st' r t a bx ∧ st.ctr ≤ st'.ctr ∧ (∀ i, i < st.ctr → i ≠ r → st'.box.get i = st.box.get i) ∧ st.ctr ≤ t ∧ st.ctr ≤ a ∧ ∀ c, c < 256 → isQ (UInt8.ofNat c) = true → st.ctr ≤ bx c
theorem Jm2 {st : St} {x : V} (hx : JcM st x oldsV) : J0 Tryz.prog st 31 .nils x = some (.ms st.ctr 0 8 1 none, st.new (.cells oldsV 9 false (some 0))) := by
 obtain ⟨i, hi, h1, h2⟩ := i9
 have q1 : Nat.ble ((0 + 8) * i.bytes) Jr = true := Nat.ble_eq_true_of_le (Nat.le_trans (Nat.mul_le_mul (show 0 + 8 ≤ 8 by omega) h2) (by simp [Jr]))
 have hsrc : Qj st 1 x = some (oldsV, 8) := hx.1
 simp only [J0, Tryz.underlying31, hi, h1, zs9, hsrc, hx.2, JJ, show Nat.beq 1 0 = false from rfl, q1]
 rfl
theorem Jm3 (o : Nat) : JbO Tryz.prog 149 [(2, .ms o 0 8 1 none)] = some (.agg [.int .u32 0, .int .i32 0, .int .u32 0, .nili, .ms o 0 8 1 none]) := by kernel_rfl
theorem Jfi [Memo] {P : Program} {gl : Gl} {f : Nat} {args : List V} {st st' : St} {v : V} (h : (Memo.look f).run args st = some (v, st')) : W P (.call gl f args) st = .call (.val v st') := by
 refine JnD rfl ⟨1, fun m hm => ?_⟩
 obtain ⟨k, rfl⟩ : ∃ k, m = k + 1 := ⟨m - 1, by omega⟩
 simp only [X, JdX, h]
variable [Memo] [NY]
set_option maxRecDepth 100000 in
theorem JnU (gl : Gl) (st : St) (r : Nat) (l : List V) (e : TypeId) (fl : Bool) (fz : Option Nat) (hb : st.box.get r = some (.cells (V.int .u32 1 :: l) e fl fz)) :
  Says Tryz.prog gl 136 [.ptr r 0] st (fun v st' => v = .bool true ∧ Sm st st') := by
 refine Qb (NY.no _ rfl rfl rfl _ _) Tryz.func136 rfl (by kernel_rfl) fun R hR K gr gn => ?_
 generalize hfr : JC gl [.ptr r 0] = fr
 have hF : Fs gl [(0, .ptr r 0)] fr := by subst hfr; simp [Fs]
 simp only [Fs] at hF
 clear hfr
 have hd := JoN (gl := gl) hb
 refine Ks_ (Ka_ (gs := [none]) fun K1 gK => ?_)
 simp (disch := omega) []
 refine gK _ _ (Ks_ (Ka_ (gs := [none, none, none, none, none, none]) fun K1 gK => ?_))
 simp (disch := omega) [hF, fo2, hd, JoM]
 refine gK _ _ (Kq_ (gr _ _ ?_))
 simp [JW, Tryz.f136, hF]
 refine hR _ _ ?_
 exact ⟨rfl, rfl⟩
variable [NO]
set_option maxRecDepth 100000 in
theorem JnV (gl : Gl) (st : St) (r : Nat) (g : V) (l : List V) (hb : st.box.get r = some (.cells (V.int .u32 1 :: l) 149 true (some 0))) :
  Says Tryz.prog gl 124 [.ptr r 0, g] st (fun _v st' => Sm st st') := by
 refine Qb (NO.done st r g l hb) Tryz.func124 rfl (by kernel_rfl) fun R hR K gr gn => ?_
 generalize hfr : JC gl [.ptr r 0, g] = fr
 have hF : Fs gl [(0, .ptr r 0), (1, g)] fr := by subst hfr; simp [Fs]
 simp only [Fs] at hF
 clear hfr
 obtain ⟨v, q1, hc, rfl, hq⟩ := Says.use (JnU gl st r l 149 true (some 0) hb)
 rw [show q1 = st from hq] at hc
 refine Ks_ (Ka_ (gs := [none, none, none, none, none]) fun K1 gK => ?_)
 simp (disch := omega) [hF, fo1, hc]
 refine gK _ _ (Kf_ (by simp (disch := omega) []) (Kk_ (gn _ _ ?_)))
 simp [JW, Tryz.f124, hF]
 refine hR _ _ ?_
 exact rfl
set_option maxRecDepth 100000 in
omit [NO] in
theorem Jls (gl : Gl) (st : St) (id : Nat) (hid : id < st.ctr) (hb : st.box.get id = some (.cells oldsV 9 true (some 0))) :
  Says Tryz.prog gl 108 [.ms id 0 8 1 (some 8)] st (fun v st' => v = .ptr (st.ctr + 1) 0 ∧ Raw st' (st.ctr + 1) st.ctr ∧ Keep st st') := by
 refine Qb (NY.no _ rfl rfl rfl _ _) Tryz.func108 rfl (by kernel_rfl) fun R hR K gr gn => ?_
 generalize hfr : JC gl [.ms id 0 8 1 (some 8)] = fr
 have hF : Fs gl [(0, .ms id 0 8 1 (some 8))] fr := by subst hfr; simp [Fs]
 simp only [Fs] at hF
 clear hfr
 have ll : QU Tryz.prog 31 (.ms id 0 8 1 (some 8)) = some (.int .i64 8) := by simp only [QU, Tryz.underlying31]; rfl
 have hrem : ∀ kk, Je Tryz.prog kk .rem 3 (.int .i64 8) (.int .i64 2) = some (.int .i64 0) := fun kk => by rw [JlJ (by decide)]; rfl
 have hsrc : JcM st (.ms id 0 8 1 (some 8)) oldsV := (Mine.mk (lo := 0) (e := 9) (Nat.zero_le _) hid hb rfl).src rfl
 have ha := Jm2 hsrc
 have k1 := (Keep.refl st).new' (.cells oldsV 9 false (some 0))
 have o1 : (st.new (.cells oldsV 9 false (some 0))).box.get st.ctr = some (.cells oldsV 9 false (some 0)) := by rw [Q9, if_pos rfl]
 have c1 : (st.new (.cells oldsV 9 false (some 0))).ctr = st.ctr + 1 := rfl
 generalize st.new (.cells oldsV 9 false (some 0)) = q1 at ha k1 o1 c1
 have hf : ({ ctr := q1.ctr + 1, box := q1.box.put q1.ctr (.cells [.int .u32 0, .int .i32 0, .int .u32 0, .nili, .ms st.ctr 0 8 1 none] 149 true (some 0)) } : St) = q1.new (.cells [.int .u32 0, .int .i32 0, .int .u32 0, .nili, .ms st.ctr 0 8 1 none] 149 true (some 0)) := rfl
 refine Ks_ (Ka_ (gs := [none]) fun K1 gK => ?_)
 simp (disch := omega) []
 refine gK _ _ (Ks_ (Ks_ (Ka_ (gs := [none, none, none, none]) fun K1 gK => ?_)))
 simp (disch := omega) [hF, ll, hrem]
 refine gK _ _ (Kf_ (by simp (disch := omega) []) (Kk_ (Ks_ (Ka_ (gs := [none, none, none, none, none]) fun K1 gK => ?_))))
 simp (disch := omega) [hF, ha, Jm3, hf, Jx, Ju, Tryz.underlying31]
 refine gK _ _ (Kq_ (gr _ _ ?_))
 simp [JW, Tryz.f108, hF]
 refine hR _ _ ?_
 refine ⟨by rw [c1], ⟨?_, ?_, ?_, ?_, by omega⟩, k1.new' _⟩
 ·rw [Q9, if_pos c1.symm]
 ·rw [Q9, if_neg (by omega)]; exact o1
 ·rw [JjS]; omega
 ·rw [JjS]; omega
inductive RI where
 | raw (o : Nat)
 | bui (t a : Nat) (bx : Nat → Nat)
def RI.ids : RI → Nat → Prop
 | .raw o, i => i = o
 | .bui t a bx, i => i = t ∨ i = a ∨ ∃ c, c < 256 ∧ isQ (UInt8.ofNat c) = true ∧ i = bx c
def RI.is (st : St) (r : Nat) : RI → Prop
 | .raw o => Raw st r o
 | .bui t a bx => Bui st r t a bx ∧ ¬ (RI.bui t a bx).ids r
theorem JnW (gl : Gl) (st : St) (r : Nat) (ri : RI) (h : ri.is st r) : Says Tryz.prog gl 124 [.ptr r 0, .fn 125 [.ptr r 0] []] st fun _ st' => ∃ t a bx, (RI.bui t a bx).is st' r ∧ (∀ i, (RI.bui t a bx).ids i → ri.ids i ∨ st.ctr ≤ i) ∧ st.ctr ≤ st'.ctr ∧ ∀ i, i < st.ctr → i ≠ r → st'.box.get i = st.box.get i := by
 cases ri with
 | raw o =>
  obtain ⟨st', t, a, bx, h1, h2, h3, h4, h5, h6, h7⟩ := NO.fresh st r o h
  have hr : r < st.ctr := h.rlt
  have hi : ∀ i, (RI.bui t a bx).ids i → st.ctr ≤ i := fun i hi => by
   rcases hi with rfl | rfl | ⟨c, hc, hq, rfl⟩
   ·exact h5
   ·exact h6
   ·exact h7 c hc hq
  exact ⟨_, st', Jfi h1, t, a, bx, ⟨h2, fun hh => by have := hi _ hh; omega⟩, fun i h => .inr (hi i h), h3, h4⟩
 | bui t a bx =>
  obtain ⟨v, st', h1, h2⟩ := JnV gl st r (.fn 125 [.ptr r 0] []) _ h.1.rb
  rw [show st' = st from h2] at h1
  exact ⟨v, st, h1, t, a, bx, h, fun i hi => .inl hi, Nat.le_refl _, fun _ _ _ => rfl⟩
set_option maxRecDepth 100000 in
theorem JjF (gl : Gl) (st : St) (r : Nat) (ri : RI) (s : S) (hs : s.n ≤ 100000) (h : ri.is st r) :
  Says Tryz.prog gl 111 [.ptr r 0, .str s] st (fun v st' => (∃ u : S, v = .str u ∧ u.toList = wq s.toList) ∧ ∃ ri' : RI, ri'.is st' r ∧ (∀ i, ri'.ids i → ri.ids i ∨ st.ctr ≤ i) ∧ st.ctr ≤ st'.ctr ∧ ∀ i, i < st.ctr → i ≠ r → st'.box.get i = st.box.get i) := by
 refine Qb (NY.no _ rfl rfl rfl _ _) Tryz.func111 rfl (by kernel_rfl) fun R hR K gr gn => ?_
 generalize hfr : JC gl [.ptr r 0, .str s] = fr
 have hF : Fs gl [(0, .ptr r 0), (1, .str s)] fr := by subst hfr; simp [Fs]
 simp only [Fs] at hF
 clear hfr
 obtain ⟨v, q1, ho, t, a, bx, hB, hids, hc1, hb1⟩ := Says.use (JnW gl st r ri h)
 have lr := Jf (P := Tryz.prog) (off := 3) a76 z76 hB.1.rb rfl
 obtain ⟨v2, q2, hrp, ⟨u, rfl, hu⟩, hk⟩ := Says.use (JoL gl q1 t a bx s hB.1.tb hs)
 refine Ks_ (Ka_ (gs := [none]) fun K1 gK => ?_)
 simp (disch := omega) []
 refine gK _ _ (Ks_ (Ka_ (gs := [none, none, none, none, none, none]) fun K1 gK => ?_))
 simp (disch := omega) [hF, fo3, ho]
 refine gK _ _ (Ks_ (Ka_ (gs := [none, none, none, none, none, none, none]) fun K1 gK => ?_))
 simp (disch := omega) [hF, fo4, lr, Jfh, hrp]
 refine gK _ _ (Kq_ (gr _ _ ?_))
 simp [JW, Tryz.f111, hF]
 refine hR _ _ ?_
 exact ⟨⟨u, rfl, hu⟩, .bui t a bx, ⟨⟨by rw [hk.box _ hB.1.rlt]; exact hB.1.rb, Nat.lt_of_lt_of_le hB.1.rlt hk.ctr, hB.1.tb.keep hk⟩, hB.2⟩, hids, Nat.le_trans hc1 hk.ctr, fun i hi hir => by rw [hk.box i (by omega)]; exact hb1 i hi hir⟩
end Go.Vm
namespace Go.Vm
open Go Go.Proofs Go.Sy
set_option maxRecDepth 100000
attribute [local simp] OkG Ql QG OkD Qf J8 JT Jj Jo vop Js Jy ev evs toV Jn Fr.dsTo Fr.glTo Fr.toNone Jk Jl Jm J6 Qe Jc Jz Jw V.undef JU JO Qn Qo Qt Qp Qu Qv JN Qw Qx Qy J7 Qz Ji Jt JG Jq JI Jp JX J2 Jv JM JP JS JK
theorem Jm4 (c : Int) : Qc Tryz.prog 66 1 [(0, .int .u8 c)] = some ([.int .u8 c], 5, 1) := by kernel_rfl
theorem z4 : JR Tryz.prog 4 = some 1 := by kernel_rfl
theorem a4 : QO Tryz.prog 4 = some false := by kernel_rfl
theorem Joa (a b : Bool) (kk : Bool) : Je Tryz.prog kk .neq 4 (.bool a) (.bool b) = some (.bool (!(a == b))) := by cases kk <;> cases a <;> cases b <;> kernel_rfl
variable [Memo] [NY]
set_option maxRecDepth 100000 in
theorem JnX (gl : Gl) (st : St) (b : Nat) (F : Nat → Prop) (l : List UInt8) (hb : Wb b st F l) (hl : l.length ≤ 100000000000) :
  Says Tryz.prog gl 110 [.ptr b 0, .int .u8 34] st (fun _v st' => ∃ F', Wb b st' F' (l ++ [34]) ∧ Wgo F st F' st') := by
 refine Qb (NY.no _ rfl rfl rfl _ _) Tryz.func110 rfl (by kernel_rfl) fun R hR K gr gn => ?_
 generalize hfr : JC gl [.ptr b 0, .int .u8 34] = fr
 have hF : Fs gl [(0, .ptr b 0), (1, .int .u8 34)] fr := by subst hfr; simp [Fs]
 simp only [Fs] at hF
 clear hfr
 obtain ⟨v, q1, y, hcc, b1, hm, hv, hF', hqc, hqb⟩ := hb.check gl
 have hbc := hb.1
 obtain ⟨q, hq⟩ : ∃ q, q = q1.new (.cells [.int .u8 34] 5 true (some 0)) := ⟨_, rfl⟩
 have kq : Keep q1 q := by rw [hq]; exact (Keep.refl q1).new' _
 have cq : q.ctr = q1.ctr + 1 := by rw [hq]; rfl
 have gq : q.box.get q1.ctr = some (.cells [.int .u8 34] 5 true (some 0)) := by rw [hq, Q9, if_pos rfl]
 have hfq : ({ ctr := q1.ctr + 1, box := q1.box.put q1.ctr (.cells [.int .u8 34] 5 true (some 0)) } : St) = q := by rw [hq]; rfl
 clear hq
 have l1 := Jf (P := Tryz.prog) (off := 1) a91 z91 b1 rfl
 have hsrc := (Mine.mk (lo := 0) (e := 5) (Nat.zero_le _) (by omega) gq rfl).src rfl
 obtain ⟨z, q2, ha, hl2, hm2, hv2, ho2⟩ := Jje (hm.keep kq) hsrc (by omega) (by rw [J5]; simp; omega)
 simp only [List.length_cons, List.length_nil] at ha
 have b1q : q.box.get b = _ := (kq.box b (by omega)).trans b1
 have b2 := (ho2 b (by omega) hv).trans b1q
 have hvz : ¬ vid z b := fun h => by
  rcases hv2 b h with h | h
  ·exact hv h
  ·omega
 have w := QB (P := Tryz.prog) (st := q2) (t := 66) (off := 1) (v := z) z91 b2 (by simp) hm2.sim
 refine Ks_ (Ka_ (gs := [none]) fun K1 gK => ?_)
 simp (disch := omega) []
 refine gK _ _ (Ks_ (Ka_ (gs := [none, none]) fun K1 gK => ?_))
 simp (disch := omega) [hF, hcc]
 refine gK _ _ (Ks_ (Ka_ (gs := [none, none, none, none, none, none, none, none, none, none, none]) fun K1 gK => ?_))
 simp (disch := omega) [hF, fb1, l1, Jm4, hfq, ha, w, Jx, Ju]
 refine gK _ _ (Ks_ (Ka_ (gs := [none]) fun K1 gK => ?_))
 simp (disch := omega) []
 refine gK _ _ (Kq_ (gr _ _ ?_))
 simp [JW, Tryz.f110, hF]
 refine hR _ _ ?_
 have hbb : (q2.put b (.cells [.ptr b 0, z] 68 true (some 0))).box.get b = some (.cells [.ptr b 0, z] 68 true (some 0)) := by rw [QD, if_pos rfl]
 have hc2 := hl2.ctr
 refine ⟨fun i => i = b ∨ vid z i, ⟨by show b < q2.ctr; omega, .inr ⟨z, hbb, ?_, hvz, fun i => Iff.rfl⟩⟩, ⟨⟨by show st.ctr ≤ q2.ctr; omega, fun i hi hf => ?_⟩, fun i hi => ?_⟩⟩
 ·rw [Jcy]
  exact hm2.stab (Nat.le_refl _) fun i hi => by
   show (q2.put b _).box.get i = _
   rw [QD, if_neg (by rintro rfl; exact hvz hi)]
 ·have hib : i ≠ b := fun h => hf ((hF' i).2 (.inl h))
  show (q2.put b _).box.get i = _
  rw [QD, if_neg hib, ho2 i (by omega) fun h => hf ((hF' i).2 (.inr h)), kq.box i (by omega), hqb i hib]
 ·rcases hi with h | h
  ·exact .inl ((hF' i).2 (.inl h))
  ·rcases hv2 i h with h | h
   ·exact .inl ((hF' i).2 (.inr h))
   ·exact .inr (by omega)
set_option maxRecDepth 100000 in
theorem Jkw (gl : Gl) (st : St) (b qb : Nat) (F : Nat → Prop) (l : List UInt8) (q to : Bool) (hb : Wb b st F l) (hq : st.box.get qb = some (.cells [.bool q] 4 true (some 0))) (hqc : qb < st.ctr) (hqf : ¬ F qb) (hl : l.length ≤ 100000000000) :
  Says Tryz.prog gl 109 [.bool to, .ptr qb 0, .ptr b 0] st (fun _v st' => ∃ F', Wb b st' F' (l ++ cond (to == q) [] [34]) ∧ st'.box.get qb = some (.cells [.bool to] 4 true (some 0)) ∧ Outs (fun i => F i ∨ i = qb) st st' ∧ ∀ i, F' i → F i ∨ st.ctr ≤ i) := by
 refine Qb (NY.no _ rfl rfl rfl _ _) Tryz.func109 rfl (by kernel_rfl) fun R hR K gr gn => ?_
 generalize hfr : JC gl [.bool to, .ptr qb 0, .ptr b 0] = fr
 have hF : Fs gl [(0, .bool to), (1, .ptr qb 0), (2, .ptr b 0)] fr := by subst hfr; simp [Fs]
 simp only [Fs] at hF
 clear hfr
 have l0 := Jf (P := Tryz.prog) (off := 0) a4 z4 hq rfl
 obtain ⟨E, hE⟩ : ∃ e, (to == q) = e := ⟨_, rfl⟩
 have eN := Joa to q
 rw [hE] at eN hR
 obtain ⟨v, s1, hc1, F1, hw1, hg1⟩ := Says.use (JnX gl st b F l hb hl)
 have hq1 : s1.box.get qb = some (.cells [.bool q] 4 true (some 0)) := by rw [(hg1.box hqc hqf).1]; exact hq
 have hqf1 := (hg1.box hqc hqf).2
 have hs0 := Jmj (v := .bool to) z4 rfl hq
 have hs1 := Jmj (v := .bool to) z4 rfl hq1
 refine Ks_ (Ks_ (Ka_ (gs := [none, none, none]) fun K1 gK => ?_))
 simp (disch := omega) [hF, l0, eN]
 refine gK _ _ ?_
 cases E with
 | true =>
  refine Kf_ (by simp (disch := omega) []) (Kk_ (Ka_ (gs := [none, none]) fun K1 gK => ?_))
  simp (disch := omega) [hF, hs0]
  refine gK _ _ (gn _ _ ?_)
  simp [JW, Tryz.f109, hF]
  refine hR _ _ ?_
  have hto : to = q := by simpa using hE
  refine ⟨F, by rw [cond_true, List.append_nil]; exact hb.stab (Nat.le_refl _) fun i hi => by rw [QD, if_neg (by rintro rfl; exact hqf hi)], by rw [QD, if_pos rfl], ⟨Nat.le_refl _, fun i hi hf => by rw [QD, if_neg (fun h => hf (.inr h))]⟩, fun i hi => .inl hi⟩
 | false =>
  refine Kt_ (by simp (disch := omega) []) (Ka_ (gs := [none]) fun K1 gK => ?_)
  simp (disch := omega) [hF, hc1]
  refine gK _ _ (Ka_ (gs := [none, none]) fun K1 gK => ?_)
  simp (disch := omega) [hF, hs1]
  refine gK _ _ (gn _ _ ?_)
  simp [JW, Tryz.f109, hF]
  refine hR _ _ ?_
  refine ⟨F1, by rw [cond_false]; exact hw1.stab (Nat.le_refl _) fun i hi => by rw [QD, if_neg (by rintro rfl; exact hqf1 hi)], by rw [QD, if_pos rfl], ⟨hg1.o.ctr, fun i hi hf => ?_⟩, hg1.f⟩
  rw [QD, if_neg (fun h => hf (.inr h)), hg1.o.box i hi (fun h => hf (.inl h))]
end Go.Vm
