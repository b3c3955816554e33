/- Lines of facts: by the document, all. -/
import Derived.Test.YtphinjijaglokaaGreatDoorSz6
namespace Go.Vm
open Go Go.Proofs Go.Pa
attribute [local simp] OkG Qh Qp OkD JY Qr JI Jm Jq vop Js JB ev evs toV Jl Fr.dsTo Fr.glTo Fr.toNone Ji Jj Jk Qk QL Jd JD Jv V.undef JW JM J7 JX J3 J9 J8 Qa JH J4 J5 JZ JO Qb Jt Ju Jw Jz JE Jr JL JN JK Qq JV JaI QI
theorem JmR {lo : Nat} {st : St} {id : Nat} {cs : List V} (hlo : lo ≤ id) (hid : id < st.ctr) (hb : st.box.get id = some (.cells cs 9 true (some 0))) : Mine lo 9 st (.ms id 0 cs.length 1 (some cs.length)) cs := Mine.mk hlo hid hb rfl
variable [Memo] [NY] [NZ]
end Go.Vm
namespace Go.Vm
open Go Go.Proofs Go.Pa
attribute [local simp] OkG Qh Qp OkD JY Qr JI Jm Jq vop Js JB ev evs toV Jl Fr.dsTo Fr.glTo Fr.toNone Ji Jj Jk Qk QL Jd JD Jv V.undef JW JM J7 JX J3 J9 J8 Qa JH J4 J5 JZ JO Qb Jt Ju Jw Jz JE Jr JL JN JK Qq JV JaI QI
variable [Memo] [NY] [NZ]
end Go.Vm
namespace Go.Vm
open Go Go.Proofs Go.Pa
attribute [local simp] OkG Qh Qp OkD JY Qr JI Jm Jq vop Js JB ev evs toV Jl Fr.dsTo Fr.glTo Fr.toNone Ji Jj Jk Qk QL Jd JD Jv V.undef JW JM J7 JX J3 J9 J8 Qa JH J4 J5 JZ JO Qb Jt Ju Jw Jz JE Jr JL JN JK Qq JV JaI QI
variable [Memo] [NY] [NZ]
end Go.Vm
namespace Go.Vm
open Go Go.Proofs Go.Pa
attribute [local simp] OkG Qh Qp OkD JY Qr JI Jm Jq vop Js JB ev evs toV Jl Fr.dsTo Fr.glTo Fr.toNone Ji Jj Jk Qk QL Jd JD Jv V.undef JW JM J7 JX J3 J9 J8 Qa JH J4 J5 JZ JO Qb Jt Ju Jw Jz JE Jr JL JN JK Qq JV JaI QI
set_option maxRecDepth 100000 in
theorem i5 : ∃ i, Tryz.prog.info? 5 = some i ∧ i.size = 1 ∧ i.bytes ≤ 64 := ⟨_, rfl, by decide, by decide⟩
theorem zs5 : Jat Tryz.prog 5 = some (.int .u8 0) := by kernel_rfl
theorem z90 : Qj Tryz.prog 39 = some 1 := by kernel_rfl
theorem a90 : Jag Tryz.prog 39 = some false := by kernel_rfl
theorem z91 : Qj Tryz.prog 40 = some 1 := by kernel_rfl
theorem a91 : Jag Tryz.prog 40 = some false := by kernel_rfl
theorem Jdp : Jat Tryz.prog 42 = some (.agg [.nilp, .nils]) := by kernel_rfl
theorem fb0 (id : Nat) : QK Tryz.prog 42 (.ptr id 0) 0 = some (.ptr id 0) := by kernel_rfl
theorem fb1 (id : Nat) : QK Tryz.prog 42 (.ptr id 0) 1 = some (.ptr id 1) := by kernel_rfl
theorem u91 : Tryz.prog.underlying 40 = some (.slice 5) := by kernel_rfl
theorem u5 : Tryz.prog.underlying 5 = some (.int .u8) := by kernel_rfl
theorem Qt (l : List UInt8) : (JQ l).length = l.length := by simp [JQ]
theorem JdO (a b : List UInt8) : JQ (a ++ b) = JQ a ++ JQ b := by simp [JQ]
theorem JdP (l : List UInt8) : (JQ l).all Qn = true := by simp [JQ, Qn]
theorem Jcv : ∀ l : List UInt8, bytesOf (JQ l) = some l
 | [] => rfl
 | a :: l => by
  have ih := Jcv l
  simp only [JQ, List.map_cons, bytesOf] at ih ⊢
  rw [ih]; simp
theorem JmS {st : St} {x s : V} {l m : List V} {lo : Nat} (h : Mine lo 5 st x l) (hm : Jbv st s m) (hlo : lo ≤ st.ctr) (hb : l.length + m.length ≤ 1000000000000) :
  ∃ y st', QE Tryz.prog st 40 x s = some (y, st') ∧ Low lo st st' ∧ Mine lo 5 st' y (l ++ m) ∧ (∀ i, vid y i → vid x i ∨ st.ctr ≤ i) ∧ ∀ i, i < st.ctr → ¬ vid x i → st'.box.get i = st.box.get i := by
 obtain ⟨i, hi, h1, h2⟩ := i5
 refine h.push2 u91 hi h1 zs5 rfl hm hlo ?_ (by simp [JA]; omega)
 refine Nat.le_trans (Nat.mul_le_mul hb h2) (by simp [JA])
theorem Jgj (st : St) (s : S) : Jbv st (.str s) (JQ s.toList) := by
 refine ⟨?_, JdP _⟩
 simp only [Jad, Qt, S.len]
def Bld (lo b : Nat) (st : St) (l : List UInt8) : Prop := ∃ y, st.box.get b = some (.cells [.ptr b 0, y] 42 true (some 0)) ∧ lo ≤ b ∧ b < st.ctr ∧ Mine lo 5 st y (JQ l) ∧ ¬ vid y b
theorem JoZ : liesAt Tryz.prog Tryz.prog.depth 42 ([V.nilp, V.nils].length / Tryz.prog.cellsOf 42) 0 42 1 = true := by kernel_rfl
theorem u90 : Tryz.prog.underlying 39 = some (.pointer 42) := by kernel_rfl
theorem JpH : Tryz.prog.underlying 77 = some .unsafePointer := by kernel_rfl
theorem z93 : Qj Tryz.prog 42 = some 2 := by kernel_rfl
theorem JpI {st : St} {id : Nat} (hb : st.box.get id = some (.cells [.nilp, .nils] 42 true (some 0))) : QJ Tryz.prog st 39 77 (.ptr id 0) = some (.ptr id 0) := by
 simp only [QJ, u90, JpH, hb, z93]
 rfl
theorem JpJ {st : St} {id : Nat} (hb : st.box.get id = some (.cells [.nilp, .nils] 42 true (some 0))) : QJ Tryz.prog st 77 39 (.ptr id 0) = some (.ptr id 0) := by
 simp only [QJ, u90, JpH, hb, z93, JoZ]
theorem JmT {id off : Nat} {kk : Bool} : Jn Tryz.prog kk .eql 39 (.ptr id off) .nilp = some (.bool false) := by simp only [Jn, u90]
theorem JkJ {kk : Bool} : Jn Tryz.prog kk .eql 39 .nilp .nilp = some (.bool true) := by cases kk <;> kernel_rfl
theorem Jgk {id : Nat} {kk : Bool} : Jn Tryz.prog kk .neq 39 (.ptr id 0) (.ptr id 0) = some (.bool false) := by
 simp only [Jn, u90, z93, Nat.beq_refl]
 rfl
theorem JpK : Tryz.prog.underlying 67 = some (.pointer 5) := by kernel_rfl
theorem co5 : Tryz.prog.cellsOf 5 = 1 := by kernel_rfl
theorem Jp5 {st : St} {lo m : Nat} {y : V} {l : List UInt8} (hm : Mine lo 5 st y (JQ l)) (hlm : l.length = m + 1) (hl : l.length ≤ 1000000000000) :
  ∃ id cap st', y = .ms id 0 (m + 1) 1 cap ∧ Jbq Tryz.prog { ctr := st.ctr + 12, box := st.box } 67 (.ptr id 0) (.int .i64 (l.length : Int)) = some (.str (S.ofList l), st') ∧ Low lo st st' := by
 generalize hb : JQ l = bl at hm
 cases hm with
 | nils =>
  have := congrArg List.length hb
  rw [Qt] at this
  have h0 : l.length = 0 := this
  omega
 | ms id n cap cs fl hlo hid hbx hn hcap =>
  have hnl : n = l.length := by
   have := congrArg List.length hb
   rw [Qt, List.length_take, Nat.min_eq_left hn] at this
   exact this.symm
  have h1 : Nat.ble (0 + l.length) cs.length = true := Nat.ble_eq_true_of_le (by omega)
  have h2 : Nat.ble l.length JA = true := Nat.ble_eq_true_of_le (by simp [JA]; omega)
  have h3 : bytesOf (sub cs 0 l.length) = some l := by
   rw [show sub cs 0 l.length = JQ l from by rw [hb, hnl]; rfl]
   exact Jcv l
  refine ⟨id, cap, { ctr := st.ctr + 12, box := st.box.put id (.cells cs 5 fl (some (Nat.max 0 (0 + l.length)))) }, by rw [← hlm, ← hnl], ?_, ⟨by show st.ctr ≤ st.ctr + 12; omega, fun i hi => by show (st.box.put id _).get i = _; rw [Tr.get_put, if_neg (by omega)]⟩⟩
  have ha : JaQ (.int .i64 (l.length : Int)) = some (m + 1) := by rw [← hlm]; rfl
  simp only [Jbq, ha, hbx, JpK, co5]
  rw [← hlm, h1, h2, h3]
  rfl
variable [Memo] [NY] [NZ]
omit [NZ] in
set_option maxRecDepth 100000 in
theorem Jei (gl : Gl) (st : St) (b : Nat) (y : V) (hb : st.box.get b = some (.cells [.ptr b 0, y] 42 true (some 0))) :
  Says Tryz.prog gl 41 [.ptr b 0] st (fun _v st' => Sm st st') := by
 refine JS (NY.no _ rfl rfl rfl _ _) Tryz.func41 rfl (by kernel_rfl) fun R hR K gr gn => ?_
 generalize hfr : Jx gl [.ptr b 0] = fr
 have hF : Fs gl [(0, .ptr b 0)] fr := by subst hfr; simp [Fs]
 simp only [Fs] at hF
 clear hfr
 have l0 := Qd (P := Tryz.prog) (off := 0) a90 z90 hb rfl
 refine Ks_ (Ka_ (gs := [none, none, none, none, none]) fun K1 gK => ?_)
 simp (disch := omega) [hF, fb0, l0, JmT]
 refine gK _ _ (Kf_ (by simp (disch := omega) []) (Ks_ (Ka_ (gs := [none, none, none, none, none, none]) fun K1 gK => ?_)))
 simp (disch := omega) [hF, fb0, l0, Jgk]
 refine gK _ _ (Kf_ (by simp (disch := omega) []) (Kk_ (gn _ _ ?_)))
 simp [JC, Tryz.f41, hF]
 refine hR _ _ ?_
 exact rfl
omit [NZ] in
set_option maxRecDepth 100000 in
theorem Jdx (gl : Gl) (st : St) (b : Nat) (hb : st.box.get b = some (.cells [.nilp, .nils] 42 true (some 0))) :
  Says Tryz.prog gl 41 [.ptr b 0] st (fun _v st' => st' = st.put b (.cells [.ptr b 0, .nils] 42 true (some 0))) := by
 refine JS (NY.no _ rfl rfl rfl _ _) Tryz.func41 rfl (by kernel_rfl) fun R hR K gr gn => ?_
 generalize hfr : Jx gl [.ptr b 0] = fr
 have hF : Fs gl [(0, .ptr b 0)] fr := by subst hfr; simp [Fs]
 simp only [Fs] at hF
 clear hfr
 have l0 := Qd (P := Tryz.prog) (off := 0) a90 z90 hb rfl
 have c1 := JpI hb
 have c2 := JpJ hb
 have w := QR (P := Tryz.prog) (t := 39) (off := 0) (v := .ptr b 0) z90 hb (by simp) rfl
 have hdoor : JaM Tryz.prog (ihCall (W Tryz.prog)) gl 61 [.ptr b 0] st = .val (.ptr b 0) st := by
  have hn : Extern.findNext Tryz.f61 = none := by kernel_rfl
  have hx : JaA Tryz.prog Tryz.f61 [.ptr b 0] = none := by
   simp only [JaA, hn]
   cases Extern.find Tryz.f61 with
   | none => rfl
   | some e => rfl
  have hd : Jhh Tryz.prog Tryz.f61 [.ptr b 0] st = some (.ptr b 0, st) := rfl
  simp only [JaM, Tryz.func61, show (Tryz.f61.name == "runtime.NumGoroutine") = false from by kernel_rfl, show Tryz.f61.body = none from rfl, hx, hn, hd]
 refine Ks_ (Ka_ (gs := [none, none, none, none, none]) fun K1 gK => ?_)
 simp (disch := omega) [hF, fb0, l0, JkJ]
 refine gK _ _ (Kt_ (by simp (disch := omega) []) (Ka_ (gs := [none, none, none, none, none, none, none, none]) fun K1 gK => ?_))
 simp (disch := omega) [hF, fb0, c1, c2, w, hdoor]
 refine gK _ _ (gn _ _ ?_)
 simp [JC, Tryz.f41, hF]
 refine hR _ _ ?_
 exact rfl
set_option maxRecDepth 100000 in
omit [Memo] [NY] [NZ] in
theorem Jo0 [Memo] {gl : Gl} {st : St} {N : Nat} (h0 : 0 < N) (hN : N ≤ 1000000000000) : JaM Tryz.prog (ihCall (W Tryz.prog)) gl 112 [.int .i64 (N : Int)] st = .val (.ms st.ctr 0 N 1 none) { ctr := st.ctr + 1, box := st.box.put st.ctr (.cells [] 5 false (some 0)) } := by
 obtain ⟨n, rfl⟩ : ∃ n, N = n + 1 := ⟨N - 1, by omega⟩
 have hn : Extern.findNext Tryz.f112 = none := by kernel_rfl
 have hx : JaA Tryz.prog Tryz.f112 [.int .i64 ((n + 1 : Nat) : Int)] = none := by
  have hf := Jfe Tryz.f112 (by kernel_rfl)
  have hu : Q2 Tryz.prog (Extern.BytealgMakeNoZero.makeNoZero Tryz.f112.params #[40] #[.int .i64 ((n + 1 : Nat) : Int)]) = none := by
   have hc : (decide (((n + 1 : Nat) : Int) < 0) || decide (((n + 1 : Nat) : Int) > 2 ^ 48)) = false := by
    rw [decide_eq_false (by omega), decide_eq_false (by omega)]; rfl
   have hdef : Extern.BytealgMakeNoZero.makeNoZero Tryz.f112.params #[40] #[.int .i64 ((n + 1 : Nat) : Int)] = (do
     let .slice elem ← underlying 40 | stuck "bytealg.MakeNoZero: slice type expected"
     if ((n + 1 : Nat) : Int) < 0 || ((n + 1 : Nat) : Int) > 2 ^ 48 then runtimePanic (.error "makeslice: len out of range")
     let cap ← choose (.appendCap ((n + 1 : Nat) : Int).toNat 0 elem)
     askRoom cap
     let bytes ← choose (.extern "internal/bytealg.MakeNoZero.bytes" 0)
     let a ← newRow elem (Extern.BytealgMakeNoZero.digits cap bytes #[])
     pure (.slice (some a) ((n + 1 : Nat) : Int).toNat cap)) := rfl
   rw [hdef, Jay, QP u91]
   simp only [Option.bind_some, hc, Bool.false_eq_true, if_false]
   rfl
  rw [show JaA Tryz.prog Tryz.f112 [.int .i64 ((n + 1 : Nat) : Int)] = QQ Tryz.prog (fun l => Extern.BytealgMakeNoZero.makeNoZero Tryz.f112.params Tryz.f112.resultTypes l.toArray) [.int .i64 ((n + 1 : Nat) : Int)] from by simp only [JaA, hn, hf]]
  rw [show Tryz.f112.resultTypes = #[40] from by kernel_rfl]
  simp only [QQ, Jd, ofV]
  show (match Q2 Tryz.prog (Extern.BytealgMakeNoZero.makeNoZero Tryz.f112.params #[40] #[.int .i64 ((n + 1 : Nat) : Int)]) with
   | some v => toV 6 v
   | none => none) = none
  rw [hu]
 have hb : Nat.ble (n + 1) JA = true := Nat.ble_eq_true_of_le (by simp [JA]; omega)
 have hd : Jhh Tryz.prog Tryz.f112 [.int .i64 ((n + 1 : Nat) : Int)] st = some (.ms st.ctr 0 (n + 1) 1 none, { ctr := st.ctr + 1, box := st.box.put st.ctr (.cells [] 5 false (some 0)) }) := by
  show (match Tryz.f112.resultTypes.toList, Nat.ble (n + 1) JA with
   | [t], true => (match Tryz.prog.underlying t with
    | some (.slice e) => some (V.ms st.ctr 0 (n + 1) 1 none, ({ ctr := st.ctr + 1, box := st.box.put st.ctr (.cells [] e false (some 0)) } : St))
    | _ => none)
   | _, _ => none) = _
  rw [hb, show Tryz.f112.resultTypes.toList = [40] from by kernel_rfl]
  simp only [u91]
 simp only [JaM, Tryz.func112, show (Tryz.f112.name == "runtime.NumGoroutine") = false from by kernel_rfl, show Tryz.f112.body = none from rfl, hx, hn, hd]
omit [NZ] in
set_option maxRecDepth 100000 in
theorem Jn1 (gl : Gl) (st : St) (b N : Nat) (h0 : 0 < N) (hN : N ≤ 1000000000000) (hbc : b < st.ctr) (hb : st.box.get b = some (.cells [.ptr b 0, .nils] 42 true (some 0))) :
  Says Tryz.prog gl 94 [.ptr b 0, .int .i64 (N : Int)] st (fun _v st' => Bld b b st' [] ∧ st.ctr ≤ st'.ctr ∧ ∀ i, i < st.ctr → i ≠ b → st'.box.get i = st.box.get i) := by
 refine JS (NY.no _ rfl rfl rfl _ _) Tryz.func94 rfl (by kernel_rfl) fun R hR K gr gn => ?_
 generalize hfr : Jx gl [.ptr b 0, .int .i64 (N : Int)] = fr
 have hF : Fs gl [(0, .ptr b 0), (1, .int .i64 (N : Int))] fr := by subst hfr; simp [Fs]
 simp only [Fs] at hF
 clear hfr
 have l1 := Qd (P := Tryz.prog) (off := 1) a91 z91 hb rfl
 have hmul : ∀ kk, Jn Tryz.prog kk .mul 3 (.int .i64 2) (.int .i64 0) = some (.int .i64 0) := fun kk => by cases kk <;> kernel_rfl
 have hd := Jo0 (gl := gl) (st := { ctr := st.ctr + 16, box := st.box }) h0 hN
 obtain ⟨q1, hq1⟩ : ∃ s : St, s = { ctr := st.ctr + 16 + 1, box := st.box.put (st.ctr + 16) (.cells [] 5 false (some 0)) } := ⟨_, rfl⟩
 have k1 : Keep st q1 := by rw [hq1]; exact ((Keep.refl st).tick 16).new _
 have c1 : q1.ctr = st.ctr + 17 := by rw [hq1]
 have g1 : q1.box.get (st.ctr + 16) = some (.cells [] 5 false (some 0)) := by rw [hq1]; simp [Tr.get_put]
 have hb1 := (k1.box b hbc).trans hb
 have l2 := Qd (P := Tryz.prog) (off := 1) a91 z91 hb1 rfl
 have hsl : Jan Tryz.prog 40 (.ms (st.ctr + 16) 0 N 1 none) none (some (.int .i64 0)) = some (.ms (st.ctr + 16) 0 0 1 none) := by
  simp only [Jan, u91, QD, z5, show JaQ (.int .i64 0) = some 0 from rfl]
  simp [Jdy, JeS, Nat.ble]
 have hq1' := hq1.symm
 have w := QR (P := Tryz.prog) (st := q1) (t := 40) (off := 1) (v := .ms (st.ctr + 16) 0 0 1 none) z91 hb1 (by simp) rfl
 have hcp : Jc5 Tryz.prog q1 40 (.ms (st.ctr + 16) 0 0 1 none) .nils = some (.int .i64 0, q1) := by
  simp only [Jc5, u91, z5, Jad, JP]
 have u91' := u91
 refine Ks_ (Ki_ (b := [0, 1, 3, 7, 15, 31, 0, 127, 255, 0, 512, 1536, 3584, 7680, 16383, 32767]) fun K1 gK => ?_)
 simp (disch := omega) [hF, fb1, l1, hmul, hd, l2, hsl, hq1', u91', Jab]
 refine gK _ _ (Ks_ (Ka_ (gs := [none, none, none, none, none, none]) fun K1 gK => ?_))
 simp (disch := omega) [hF, fb1, l2, hcp]
 refine gK _ _ (Ka_ (gs := [none, none, none, none, none]) fun K1 gK => ?_)
 simp (disch := omega) [hF, fb1, w]
 refine gK _ _ (gn _ _ ?_)
 simp [JC, Tryz.f94, hF]
 refine hR _ _ ?_
 have hbb : (q1.put b (.cells [.ptr b 0, .ms (st.ctr + 16) 0 0 1 none] 42 true (some 0))).box.get b = some (.cells [.ptr b 0, .ms (st.ctr + 16) 0 0 1 none] 42 true (some 0)) := by rw [put_get, if_pos rfl]
 refine ⟨⟨.ms (st.ctr + 16) 0 0 1 none, hbb, Nat.le_refl _, by show b < q1.ctr; omega, ?_, by show ¬ b = st.ctr + 16; omega⟩, by show st.ctr ≤ q1.ctr; omega, fun i hi hib => ?_⟩
 ·have := Mine.ms (lo := b) (e := 5) (st := q1.put b (.cells [.ptr b 0, .ms (st.ctr + 16) 0 0 1 none] 42 true (some 0))) (st.ctr + 16) 0 none [] false (by omega) (by rw [Q3]; omega) (by rw [put_get, if_neg (by omega)]; exact g1) (Nat.le_refl _) (fun c hc => by cases hc)
  exact this
 ·show (q1.put b _).box.get i = _
  rw [put_get, if_neg hib]; exact k1.box i hi
omit [NZ] in
set_option maxRecDepth 100000 in
theorem JiK (gl : Gl) (st : St) (b N : Nat) (h0 : 0 < N) (hN : N ≤ 1000000000000) (hbc : b < st.ctr) (hb : st.box.get b = some (.cells [.nilp, .nils] 42 true (some 0))) :
  Says Tryz.prog gl 76 [.ptr b 0, .int .i64 (N : Int)] st (fun _v st' => Bld b b st' [] ∧ st.ctr ≤ st'.ctr ∧ ∀ i, i < st.ctr → i ≠ b → st'.box.get i = st.box.get i) := by
 refine JS (NY.no _ rfl rfl rfl _ _) Tryz.func76 rfl (by kernel_rfl) fun R hR K gr gn => ?_
 generalize hfr : Jx gl [.ptr b 0, .int .i64 (N : Int)] = fr
 have hF : Fs gl [(0, .ptr b 0), (1, .int .i64 (N : Int))] fr := by subst hfr; simp [Fs]
 simp only [Fs] at hF
 clear hfr
 obtain ⟨v, q1, hcc, hq1⟩ := Says.use (Jdx gl st b hb)
 have c1 : q1.ctr = st.ctr := by rw [hq1, Q3]
 have hb1 : q1.box.get b = some (.cells [.ptr b 0, .nils] 42 true (some 0)) := by rw [hq1, put_get, if_pos rfl]
 have ho1 : ∀ i, i ≠ b → q1.box.get i = st.box.get i := fun i hi => by rw [hq1, put_get, if_neg hi]
 clear hq1
 have l1 := Qd (P := Tryz.prog) (off := 1) a91 z91 hb1 rfl
 obtain ⟨v2, q2, hg, hbl, hc2, ho2⟩ := Says.use (Jn1 gl { ctr := q1.ctr + 13, box := q1.box } b N h0 hN (by show b < q1.ctr + 13; omega) hb1)
 have u91' := u91
 refine Ks_ (Ka_ (gs := [none, none]) fun K1 gK => ?_)
 simp (disch := omega) [hF, hcc]
 refine gK _ _ (Ks_ (Ks_ (Ka_ (gs := [none, none]) fun K1 gK => ?_)))
 simp (disch := omega) [hF]
 refine gK _ _ (Kf_ (by simp (disch := omega) []) (Kk_ (Ks_ (Ki_ (b := [0, 1, 3, 7, 15, 0, 32, 96, 224, 480, 1023, 0, 4095]) fun K1 gK => ?_))))
 simp (disch := omega) [hF, fb1, l1, u91', Jab]
 refine gK _ _ (Kt_ (by simp (disch := omega) [h0]) (Ka_ (gs := [none, none, none]) fun K1 gK => ?_))
 simp (disch := omega) [hF, hg, h0]
 refine gK _ _ (gn _ _ ?_)
 simp [JC, Tryz.f76, hF]
 refine hR _ _ ?_
 exact ⟨hbl, by have : q1.ctr + 13 ≤ q2.ctr := hc2; omega, fun i hi hib => by rw [ho2 i (by show i < q1.ctr + 13; omega) hib]; exact ho1 i hib⟩
omit [NZ] in
set_option maxRecDepth 100000 in
theorem Jcw (gl : Gl) (st : St) (lo b : Nat) (l : List UInt8) (s : S) (hb : Bld lo b st l) (hl : l.length + s.n ≤ 1000000000000) :
  Says Tryz.prog gl 20 [.ptr b 0, .str s] st (fun _v st' => Bld lo b st' (l ++ s.toList) ∧ Low lo st st') := by
 refine JS (NY.no _ rfl rfl rfl _ _) Tryz.func20 rfl (by kernel_rfl) fun R hR K gr gn => ?_
 generalize hfr : Jx gl [.ptr b 0, .str s] = fr
 have hF : Fs gl [(0, .ptr b 0), (1, .str s)] fr := by subst hfr; simp [Fs]
 simp only [Fs] at hF
 clear hfr
 obtain ⟨y, b1, hlo, hbc, hm, hv⟩ := hb
 obtain ⟨v, q1, hcc, hq1⟩ := Says.use (Jei gl st b y b1)
 rw [show q1 = st from hq1] at hcc
 clear hq1
 have l1 := Qd (P := Tryz.prog) (off := 1) a91 z91 b1 rfl
 obtain ⟨z, q2, ha, hl2, hm2, hv2, ho2⟩ := JmS hm (Jgj st s) (by omega) (by rw [Qt, Qt, S.len]; exact hl)
 have b2 := (ho2 b hbc hv).trans b1
 have hvz : ¬ vid z b := fun h => by
  rcases hv2 b h with h | h
  ·exact hv h
  ·omega
 have w := QR (P := Tryz.prog) (st := q2) (t := 40) (off := 1) (v := z) z91 b2 (by simp) hm2.sim
 have ls := Jar Tryz.underlying9 (s := s)
 refine Ks_ (Ka_ (gs := [none, none]) fun K1 gK => ?_)
 simp (disch := omega) []
 refine gK _ _ (Ks_ (Ka_ (gs := [none, none]) fun K1 gK => ?_))
 simp (disch := omega) [hF, hcc]
 refine gK _ _ (Ks_ (Ka_ (gs := [none, none, none, none, none, none, none, none, none, none]) fun K1 gK => ?_))
 simp (disch := omega) [hF, fb1, l1, ha, w, Tryz.underlying9]
 refine gK _ _ (Ks_ (Ka_ (gs := [none, none, none, none]) fun K1 gK => ?_))
 simp (disch := omega) [hF, ls]
 refine gK _ _ (Kq_ (gr _ _ ?_))
 simp [JC, Tryz.f20, hF]
 refine hR _ _ ?_
 have hbb : (q2.put b (.cells [.ptr b 0, z] 42 true (some 0))).box.get b = some (.cells [.ptr b 0, z] 42 true (some 0)) := by rw [put_get, if_pos rfl]
 refine ⟨⟨z, hbb, hlo, by have := hl2.ctr; show b < q2.ctr; omega, ?_, hvz⟩, ⟨hl2.ctr, fun i hi => ?_⟩⟩
 ·rw [JdO]
  exact hm2.stab (Nat.le_refl _) fun i hi => by
   show (q2.put b _).box.get i = _
   rw [put_get, if_neg (by rintro rfl; exact hvz hi)]
 ·show (q2.put b _).box.get i = _
  rw [put_get, if_neg (by omega)]; exact hl2.box i hi
omit [NZ] in
set_option maxRecDepth 100000 in
theorem JeR (gl : Gl) (st : St) (lo b : Nat) (l : List UInt8) (hb : Bld lo b st l) (hl : l.length ≤ 1000000000000) (hne : l ≠ []) :
  Says Tryz.prog gl 24 [.ptr b 0] st (fun v st' => (∃ t : S, v = .str t ∧ t.toList = l) ∧ Low lo st st') := by
 refine JS (NY.no _ rfl rfl rfl _ _) Tryz.func24 rfl (by kernel_rfl) fun R hR K gr gn => ?_
 generalize hfr : Jx gl [.ptr b 0] = fr
 have hF : Fs gl [(0, .ptr b 0)] fr := by subst hfr; simp [Fs]
 simp only [Fs] at hF
 clear hfr
 obtain ⟨y, b1, hlo, hbc, hm, hv⟩ := hb
 have l1 := Qd (P := Tryz.prog) (off := 1) a91 z91 b1 rfl
 have ly := hm.len u91
 rw [Qt] at ly
 obtain ⟨m, hlm⟩ : ∃ m, l.length = m + 1 := ⟨l.length - 1, by have := List.length_pos_iff.2 hne; omega⟩
 obtain ⟨id, cap, q1, rfl, hu, hlow⟩ := Jp5 hm hlm hl
 have vq : veq 1000000000 (.ms id 0 (m + 1) 1 cap) (.ms id 0 (m + 1) 1 cap) = true := Qz _ (Nat.le_of_ble_eq_true rfl)
 refine Ks_ (Ka_ (gs := [none]) fun K1 gK => ?_)
 simp (disch := omega) []
 refine gK _ _ (Ks_ (Ki_ (b := [0, 1, 3, 7, 15, 0, 32, 96, 224, 480, 1023, 2047]) fun K1 gK => ?_))
 simp (disch := omega) [hF, fb1, l1, ly, vq, hu]
 refine gK _ _ (Kq_ (gr _ _ ?_))
 simp [JC, Tryz.f24, hF]
 refine hR _ _ ?_
 exact ⟨⟨_, rfl, S.toList_ofList l⟩, hlow⟩
end Go.Vm
namespace Go.Vm
open Go Go.Proofs Go.Pa
attribute [local simp] OkG Qh Qp OkD JY Qr JI Jm Jq vop Js JB ev evs toV Jl Fr.dsTo Fr.glTo Fr.toNone Ji Jj Jk Qk QL Jd JD Jv V.undef JW JM J7 JX J3 J9 J8 Qa JH J4 J5 JZ JO Qb Jt Ju Jw Jz JE Jr JL JN JK Qq JV JaI QI
def Jb5 (c : UInt8) : List S → List UInt8
 | [] => []
 | s :: p => s.toList ++ p.flatMap fun s => c :: s.toList
theorem Jlj {p : List S} (h : ¬ p = []) : JdY p = 47 :: Jb5 47 p := by
 cases p with
 | nil => exact absurd rfl h
 | cons a b => rfl
theorem Jp6 {st : St} {x : V} {l : List S} (hx : Vw st x l) (h : 1 ≤ l.length) : ∃ y, Jan Tryz.prog 22 x (some (.int .i64 1)) none = some y ∧ Vw st y (l.drop 1) := hx.tail (k := .i64) Tryz.underlying22 z9 h
theorem Jo1 {n : Int} (h : 1 ≤ n) (h2 : n ≤ 1000) : ∃ q : Int, (∀ kk, Jn Tryz.prog kk .quo 3 (.int .i64 9223372036854775807) (.int .i64 n) = some (.int .i64 q)) ∧ 1 < q := by
 have e : (9223372036854775807 : Int).tdiv n = 9223372036854775807 / n := Int.tdiv_eq_ediv_of_nonneg (by decide)
 have h3 : 2 ≤ (9223372036854775807 : Int) / n := Int.le_ediv_of_mul_le (by omega) (by omega)
 have h4 : (9223372036854775807 : Int) / n ≤ 9223372036854775807 := Int.ediv_le_self _ (by decide)
 refine ⟨9223372036854775807 / n, fun kk => ?_, by omega⟩
 rw [Jd5 (by omega), e, Jr (by omega) (by omega)]
def JgN (l : List S) : Nat := (l.map S.n).sum
theorem Jlk {p : List S} {i : Nat} (h : i < p.length) : JgN (p.take (i + 1)) = JgN (p.take i) + p[i].n := by
 unfold JgN
 rw [List.take_add_one, List.getElem?_eq_getElem h, List.map_append, List.sum_append]; simp
theorem JhN : ∀ (p : List S), (∀ s ∈ p, s.n ≤ 1000000) → JgN p ≤ 1000000 * p.length
 | [], _ => Nat.le_refl _
 | s :: p, h => by
  have := JhN p fun t ht => h t (by simp [ht])
  have := h s (by simp)
  unfold JgN at *
  simp only [List.map_cons, List.sum_cons, List.length_cons]; omega
theorem JmU {p : List S} (hp : p.length ≤ 600) (hs : ∀ s ∈ p, s.n ≤ 300) : (Jb5 47 p).length ≤ 190000 := by
 cases p with
 | nil => simp [Jb5]
 | cons a r =>
  have h1 := Jh6 r fun s hm => hs s (by simp [hm])
  have h2 := hs a (by simp)
  simp only [Jb5, List.length_append, S.len]
  simp only [List.length_cons] at hp
  omega
theorem Jll {c : UInt8} {p : List S} (hp : p.length ≤ 1000) (hs : ∀ s ∈ p, s.n ≤ 1000000) : (Jb5 c p).length ≤ 1001001000 := by
 cases p with
 | nil => simp [Jb5]
 | cons a r =>
  have h1 := Jcm c r fun s hm => hs s (by simp [hm])
  have h2 := hs a (by simp)
  simp only [Jb5, List.length_append, S.len]
  simp only [List.length_cons] at hp
  omega
theorem Jn2 {c : UInt8} {p : List S} (h : 2 ≤ p.length) : Jb5 c p ≠ [] := by
 match p, h with
 | a :: b :: r, _ => simp [Jb5]
theorem Jn3 {c : UInt8} {p : List S} (h : 0 < p.length) : p[0].toList ++ ((p.drop 1).flatMap fun s => c :: s.toList) = Jb5 c p := by
 cases p with
 | nil => simp at h
 | cons a r => rfl
theorem Ja1 {c : UInt8} : Jab Tryz.prog 9 (.str (S.ofList [c])) = some (.int .i64 1) := by simp only [Jab, Tryz.underlying9]; rfl
variable [Memo] [NY] [NZ]
omit [NZ] in
set_option maxRecDepth 100000 in
theorem Jn4 (gl : Gl) (c : UInt8) (st : St) (x : V) (p : List S) (hx : Vw st x p) (hp : p.length ≤ 1000) (hs : ∀ s ∈ p, s.n ≤ 1000000) :
  Says Tryz.prog gl 64 [x, .str (S.ofList [c])] st (fun v st' => (∃ t : S, v = .str t ∧ t.toList = Jb5 c p) ∧ Keep st st') := by
 refine JS (NY.no _ rfl rfl rfl _ _) Tryz.func64 rfl (by kernel_rfl) fun R hR K gr gn => ?_
 generalize hfr : Jx gl [x, .str (S.ofList [c])] = fr
 have hF : Fs gl [(0, x), (1, .str (S.ofList [c]))] fr := by subst hfr; simp [Fs]
 simp only [Fs] at hF
 clear hfr
 have lx := hx.len Tryz.underlying22
 refine Ks_ (Ka_ (gs := [none]) fun K1 gK => ?_)
 simp (disch := omega) []
 refine gK _ _ (Ks_ (Ks_ (Ka_ (gs := [none, none]) fun K1 gK => ?_)))
 simp (disch := omega) [hF, lx]
 refine gK _ _ ?_
 refine Kb_ fun K1 gn1 gx1 go1 => ?_
 have gr1 := fun fr st h => go1 AE.ret fr st trivial (gr fr st h)
 refine Ks_ (Ka_ (gs := [none, none]) fun K1 gK => ?_)
 simp (disch := omega) []
 refine gK _ _ ?_
 by_cases h0 : p = []
 ·
  refine Kt_ (by simp (disch := omega) [h0]) (Ks_ (Ka_ (gs := [none]) fun K1 gK => ?_))
  simp (disch := omega) [h0]
  refine gK _ _ (Kq_ (gr1 _ _ ?_))
  simp [JC, Tryz.f64, hF]
  refine hR _ _ ?_
  exact ⟨⟨⟨0, 0⟩, by rfl, by rw [h0]; rfl⟩, .refl _⟩
 ·
  refine Kf_ (by simp (disch := omega) [h0]) (Ks_ (Ka_ (gs := [none, none]) fun K1 gK => ?_))
  simp (disch := omega) [h0]
  refine gK _ _ ?_
  by_cases h1 : p.length = 1
  ·
   refine Kt_ (by simp (disch := omega) [h1]) ?_
   have hxi := hx.ix Tryz.underlying22 z9 (k := .i64) (a := 0) (by omega) (by omega)
   have hxd := hx.ld z9 a9 (show 0 < p.length by omega)
   refine Ks_ (Ka_ (gs := [none, none, none, none]) fun K1 gK => ?_)
   simp (disch := omega) [hF, h1, hxi, hxd]
   refine gK _ _ (Kq_ (gr1 _ _ ?_))
   simp [JC, Tryz.f64, hF]
   refine hR _ _ ?_
   exact ⟨⟨p[0], rfl, by (match p, h1 with | [a], _ => simp [Jb5])⟩, .refl _⟩
  ·
   refine Kf_ (by simp (disch := omega) [h1]) ?_
   have h2 : 2 ≤ p.length := by (have : p.length ≠ 0 := fun h => h0 (List.length_eq_zero_iff.1 h)); omega
   obtain ⟨L, hL⟩ : ∃ L : Nat, p.length = L + 1 := ⟨p.length - 1, by omega⟩
   have hL' : (p.length : Int) - 1 = (L : Int) := by omega
   obtain ⟨q, hq, hq1⟩ := Jo1 (n := (L : Int)) (by omega) (by omega)
   have hge : ∀ kk, Jn Tryz.prog kk .geq 3 (.int .i64 1) (.int .i64 q) = some (.bool false) := fun kk => by rw [Ja0, decide_eq_false (by omega)]
   have hmul : ∀ kk, Jn Tryz.prog kk .mul 3 (.int .i64 1) (.int .i64 (L : Int)) = some (.int .i64 (L : Int)) := fun kk => by rw [Qs, Int.one_mul, Jr (by omega) (by omega)]
   refine Kk_ (gn1 _ _ (Ks_ (Ka_ (gs := [none]) fun K1 gK => ?_)))
   simp (disch := omega) [h1]
   refine gK _ _ (Ks_ (Ks_ (Ka_ (gs := [none, none, none]) fun K1 gK => ?_)))
   simp (disch := omega) [hF, Ja1]
   refine gK _ _ (Kt_ (by simp (disch := omega) []) (Ks_ (Ks_ (Ka_ (gs := [none, none, none, none, none, none, none]) fun K1 gK => ?_))))
   simp (disch := omega) [hF, lx, Ja1, hL', hq, hge]
   refine gK _ _ (Kf_ (by simp (disch := omega) []) (Kk_ (Ka_ (gs := [none, none, none, none, none, none, none, none, none]) fun K1 gK => ?_)))
   simp (disch := omega) [hF, lx, Ja1, hL', hmul]
   refine gK _ _ (Ks_ (Ks_ (Ka_ (gs := [none, none, none]) fun K1 gK => ?_)))
   simp (disch := omega) [hF, lx]
   refine gK _ _ ?_
   refine Kl_ (p.length) (fun i fr st' => Fs gl [(0, x), (1, .str (S.ofList [c])), (5, .int .i64 ((L + JgN (p.take i) : Nat) : Int)), (39, x), (40, .int .i64 (p.length : Int)), (41, .int .i64 (i : Int))] fr ∧ i ≤ p.length ∧ st = st') (0) (fun fr st' => Fs gl [(0, x), (1, .str (S.ofList [c])), (5, .int .i64 ((L + JgN p : Nat) : Int))] fr ∧ st = st') ?_ ?_ ?_ ?_
   ·exact ⟨by simp [Fs, hF, JgN],  Nat.zero_le _, rfl⟩
   ·rintro i fr st' ⟨_, hi, rfl⟩
    omega
   ·as_aux_lemma =>
    clear hF
    rintro i fr st' ⟨hF, hi, rfl⟩ K2 gk2 gx2 go2
    simp only [Fs] at hF
    refine Ks_ (Ka_ (gs := [none]) fun K1 gK => ?_)
    simp (disch := omega) [hF]
    refine gK _ _ (Ks_ ?_)
    by_cases hlt : i < p.length
    ·
     refine Kt_ (by simp (disch := omega) [hlt]) ?_
     have hxi := hx.ix Tryz.underlying22 z9 (k := .i64) (a := (i : Int)) (by omega) (by omega)
     have hxd := hx.ld z9 a9 hlt
     have hsn := hs _ (List.getElem_mem hlt)
     have hbd := JhN (p.take i) fun s hm => hs s (List.mem_of_mem_take hm)
     rw [List.length_take, Nat.min_eq_left hi] at hbd
     have ls := Jar Tryz.underlying9 (s := p[i])
     have hts := Jlk hlt
     generalize JgN (p.take i) = W0 at hF hbd hts
     have hno : ∀ kk, Jn Tryz.prog kk .gtr 3 (.int .i64 (p[i].n : Int)) (.int .i64 (9223372036854775807 - ((L : Int) + (W0 : Int)))) = some (.bool false) := fun kk => by rw [Jb3, decide_eq_false (by omega)]
     refine Kk_ (Ks_ ?_)
     refine Kb_ fun K3 gn3 gx3 go3 => ?_
     refine Ks_ (Ka_ (gs := [none, none, none]) fun K1 gK => ?_)
     simp (disch := omega) [hF, hlt, hxi, hxd]
     refine gK _ _ (Ks_ (Ks_ (Ka_ (gs := [none, none, none, none, none]) fun K1 gK => ?_)))
     simp (disch := omega) [hF, ls, hno]
     refine gK _ _ (Kf_ (by simp (disch := omega) []) (Kk_ (Ka_ (gs := [none, none, none, none, none]) fun K1 gK => ?_)))
     simp (disch := omega) [hF, ls]
     refine gK _ _ (gn3 _ _ (Ka_ (gs := [none, none]) fun K1 gK => ?_))
     simp (disch := omega) [hF]
     refine gK _ _ ?_
     refine gk2 (i + 1) _ _ (by omega) ⟨by (rw [hts]; simp [Fs, hF]; omega),  by omega, rfl⟩
    ·
     refine Kf_ (by simp (disch := omega) [hlt]) ?_
     exact Kx_ (gx2 _ _ ⟨by (rw [List.take_of_length_le (by omega)] at hF; simp [Fs, hF]),  rfl⟩)
   ·as_aux_lemma =>
    clear hF
    rintro fr st' ⟨hF, rfl⟩
    simp only [Fs] at hF
    have hbd := JhN p hs
    generalize hW : JgN p = W0 at hF hbd
    have hb0 : ({ ctr := st.ctr + 1, box := st.box.put st.ctr (.cells [.nilp, .nils] 42 true (some 0)) } : St) = st.new (.cells [.nilp, .nils] 42 true (some 0)) := rfl
    have kn := (Keep.refl st).new' (.cells [.nilp, .nils] 42 true (some 0))
    have bn : (st.new (.cells [.nilp, .nils] 42 true (some 0))).box.get st.ctr = some (.cells [.nilp, .nils] 42 true (some 0)) := by rw [QC, if_pos rfl]
    have cn : (st.new (.cells [.nilp, .nils] 42 true (some 0))).ctr = st.ctr + 1 := rfl
    generalize st.new (.cells [.nilp, .nils] 42 true (some 0)) = q1 at hb0 kn bn cn
    obtain ⟨v, q2, hcg, hbl, hc2, ho2⟩ := Says.use (JiK gl q1 st.ctr (L + W0) (by omega) (by omega) (by omega) bn)
    have k2 : Keep st q2 := ⟨by omega, fun i hi => by rw [ho2 i (by omega) (by omega)]; exact kn.box i hi⟩
    have hx2 := hx.keep k2
    have hxi := hx2.ix Tryz.underlying22 z9 (k := .i64) (a := 0) (by omega) (by omega)
    have hxd := hx2.ld z9 a9 (show 0 < p.length by omega)
    have hs0 := hs _ (List.getElem_mem (show 0 < p.length by omega))
    obtain ⟨v2, q3, hcw, hbl3, hl3⟩ := Says.use (Jcw gl q2 st.ctr st.ctr [] p[0] hbl (by simp; omega))
    have k3 : Keep st q3 := hl3.keep k2 (Nat.le_refl _)
    obtain ⟨y, hy, hvy0⟩ := Jp6 hx (by omega)
    have hvy := hvy0.keep k3
    have lly := hvy.len Tryz.underlying22
    have hdl : (p.drop 1).length = L := by simp; omega
    rw [hdl] at lly
    have hcg' : JaM Tryz.prog (ihCall (W Tryz.prog)) gl 76 [.ptr st.ctr 0, .int .i64 ((L : Int) + (W0 : Int))] q1 = .val v q2 := hcg
    refine Ks_ (Ka_ (gs := [none]) fun K1 gK => ?_)
    simp (disch := omega) [Jdp, hb0, Qn]
    refine gK _ _ (Ks_ (Ka_ (gs := [none, none]) fun K1 gK => ?_))
    simp (disch := omega) [hF, hcg']
    refine gK _ _ (Ks_ (Ka_ (gs := [none, none, none, none]) fun K1 gK => ?_))
    simp (disch := omega) [hF, hxi, hxd, hcw]
    refine gK _ _ (Ks_ (Ks_ (Ka_ (gs := [none, none, none, none]) fun K1 gK => ?_)))
    simp (disch := omega) [hF, hy, lly]
    refine gK _ _ ?_
    refine Kl_ (L) (fun i fr st' => Fs gl [(1, .str (S.ofList [c])), (8, .ptr st.ctr 0), (63, y), (64, .int .i64 (L : Int)), (65, .int .i64 (i : Int))] fr ∧ i ≤ L ∧ Keep st st' ∧ Bld st.ctr st.ctr st' (p[0].toList ++ ((p.drop 1).take i).flatMap fun s => c :: s.toList)) (0) (fun fr st' => Fs gl [(8, .ptr st.ctr 0)] fr ∧ Keep st st' ∧ Bld st.ctr st.ctr st' (Jb5 c p)) ?_ ?_ ?_ ?_
    ·exact ⟨by simp [Fs, hF], Nat.zero_le _, k3, by simpa using hbl3⟩
    ·rintro i fr st' ⟨_, hi, hk, hbl⟩
     omega
    ·as_aux_lemma =>
     clear hF
     rintro i fr st' ⟨hF, hi, hk, hbl⟩ K4 gk4 gx4 go4
     simp only [Fs] at hF
     refine Ks_ (Ka_ (gs := [none]) fun K1 gK => ?_)
     simp (disch := omega) [hF]
     refine gK _ _ (Ks_ ?_)
     by_cases hlt : i < L
     ·
      refine Kt_ (by simp (disch := omega) [hlt]) ?_
      have hlt' : i < (p.drop 1).length := by omega
      have hvy := hvy0.keep hk
      have hyi := hvy.ix Tryz.underlying22 z9 (k := .i64) (a := (i : Int)) (by omega) (by omega)
      have hyd := hvy.ld z9 a9 hlt'
      have hsi := hs _ (List.mem_of_mem_drop (List.getElem_mem hlt'))
      have hpl := Jcm c ((p.drop 1).take i) fun s hm => hs s (List.mem_of_mem_drop (List.mem_of_mem_take hm))
      have hs00 := hs _ (List.getElem_mem (show 0 < p.length by omega))
      have hcl : (p[0].toList ++ ((p.drop 1).take i).flatMap fun s => c :: s.toList).length ≤ 2000000000 := by
       rw [List.length_append, S.len]
       rw [List.length_take] at hpl
       omega
      generalize hacc : (p[0].toList ++ ((p.drop 1).take i).flatMap fun s => c :: s.toList) = acc at hbl hcl
      obtain ⟨v4, q5, hw1, hb5, hl5⟩ := Says.use (Jcw gl st' st.ctr st.ctr acc (S.ofList [c]) hbl (by rw [Qu]; simp; omega))
      obtain ⟨v5, q6, hw2, hb6, hl6⟩ := Says.use (Jcw gl q5 st.ctr st.ctr _ (p.drop 1)[i] hb5 (by rw [List.length_append, S.toList_ofList]; simp; simp at hsi; omega))
      have k6 : Keep st q6 := (hl5.trans hl6).keep hk (Nat.le_refl _)
      have hnm : (p.drop 1)[i] = p[i + 1]'(by omega) := by simp
      rw [hnm] at hyd hw2
      refine Kk_ (Ks_ ?_)
      refine Kb_ fun K5 gn5 gx5 go5 => ?_
      refine Ks_ (Ka_ (gs := [none, none, none]) fun K1 gK => ?_)
      simp (disch := omega) [hF, hlt, hyi, hyd]
      refine gK _ _ (Ks_ (Ka_ (gs := [none, none]) fun K1 gK => ?_))
      simp (disch := omega) [hF, hw1]
      refine gK _ _ (Ka_ (gs := [none, none]) fun K1 gK => ?_)
      simp (disch := omega) [hF, hw2]
      refine gK _ _ (gn5 _ _ (Ka_ (gs := [none, none]) fun K1 gK => ?_))
      simp (disch := omega) [hF]
      refine gK _ _ ?_
      refine gk4 (i + 1) _ _ (by omega) ⟨by simp [Fs, hF], by omega, k6, by (rw [S.toList_ofList] at hb6; rw [JgV hlt', ← List.append_assoc, hacc]; simpa using hb6)⟩
     ·
      refine Kf_ (by simp (disch := omega) [hlt]) ?_
      exact Kx_ (gx4 _ _ ⟨by simp [Fs, hF, hlt], hk, by (rw [List.take_of_length_le (by omega), Jn3 (by omega)] at hbl; exact hbl)⟩)
    ·as_aux_lemma =>
     clear hF
     rintro fr st' ⟨hF, hk, hbl⟩
     simp only [Fs] at hF
     have hjl : (Jb5 c p).length ≤ 1000000000000 := Nat.le_trans (Jll hp hs) (by omega)
     have hjn := Jn2 (c := c) h2
     obtain ⟨v3, q4, hst, ⟨t, rfl, ht⟩, hl4⟩ := Says.use (JeR gl st' st.ctr st.ctr (Jb5 c p) hbl hjl hjn)
     refine Ks_ (Ka_ (gs := [none, none]) fun K1 gK => ?_)
     simp (disch := omega) [hF, hst]
     refine gK _ _ (Kq_ (gr _ _ ?_))
     simp [JC, Tryz.f64, hF]
     refine hR _ _ ?_
     exact ⟨⟨t, rfl, ht⟩, hl4.keep hk (Nat.le_refl _)⟩
omit [NZ] in
set_option maxRecDepth 100000 in
theorem JmV (gl : Gl) (st : St) (x : V) (p : List S) (hx : Vw st x p) (hp : p.length ≤ 600) (hs : ∀ s ∈ p, s.n ≤ 300) :
  Says Tryz.prog gl 49 [x] st (fun v st' => (∃ t : S, v = .str t ∧ t.toList = JdY p) ∧ Keep st st') := by
 refine JS (NY.no _ rfl rfl rfl _ _) Tryz.func49 rfl (by kernel_rfl) fun R hR K gr gn => ?_
 generalize hfr : Jx gl [x] = fr
 have hF : Fs gl [(0, x)] fr := by subst hfr; simp [Fs]
 simp only [Fs] at hF
 clear hfr
 have lx := hx.len Tryz.underlying22
 refine Ks_ (Ka_ (gs := [none]) fun K1 gK => ?_)
 simp (disch := omega) []
 refine gK _ _ (Ks_ (Ks_ (Ka_ (gs := [none, none, none]) fun K1 gK => ?_)))
 simp (disch := omega) [hF, lx]
 refine gK _ _ ?_
 by_cases h0 : p = []
 ·
  refine Kt_ (by simp (disch := omega) [h0]) (Ks_ (Ka_ (gs := [none]) fun K1 gK => ?_))
  simp (disch := omega) [h0]
  refine gK _ _ (Kq_ (gr _ _ ?_))
  simp [JC, Tryz.f49, hF]
  refine hR _ _ ?_
  exact ⟨⟨S.ofList [47], rfl, by rw [h0]; rfl⟩, .refl _⟩
 ·
  refine Kf_ (by simp (disch := omega) [h0]) ?_
  obtain ⟨v, q1, hj, ⟨t, rfl, ht⟩, hk⟩ := Says.use (Jn4 gl 47 st x p hx (by omega) (fun s h => Nat.le_trans (hs s h) (by omega)))
  have htn : t.n ≤ 190000 := by
   have h1 := congrArg List.length ht
   rw [S.len] at h1
   have := JmU hp hs
   omega
  have ad : ∀ kk, Jn Tryz.prog kk .add 9 (.str (S.ofList [47])) (.str t) = some (.str ((S.ofList [47]).app t)) := fun kk => Jai (by rw [Qu]; simp; omega)
  refine Kk_ (Ks_ (Ka_ (gs := [none, none, none, none]) fun K1 gK => ?_))
  simp (disch := omega) [hF, h0, hj, ad]
  refine gK _ _ (Kq_ (gr _ _ ?_))
  simp [JC, Tryz.f49, hF]
  refine hR _ _ ?_
  exact ⟨⟨_, rfl, by rw [S.toList_app, S.toList_ofList, ht, Jlj h0]; rfl⟩, hk⟩
end Go.Vm
