/- Lines of facts: by the document, all. -/
import Derived.Test.YtphinjijaglokaaGreatDoorSz6
namespace Go.Vm
open Go Go.Proofs Go.Pa
attribute [local simp] OkG Qa Qe OkD J3 Qd JA Je Jj vop Jk Jr ev evs toV Ji Fr.dsTo Fr.glTo Fr.toNone Jf Jg Jh J9 Qu Jc Jy Jn V.undef JP JI JY JS JZ J7 J0 J1 JD J2 JV JT JQ J8 Jq Jo Jt Jw Jx Jp JL JM JC Qg Jaj Jak Q2
variable [Memo] [NY] [NZ]
end Go.Vm
namespace Go.Vm
open Go Go.Proofs Go.Pa
attribute [local simp] OkG Qa Qe OkD J3 Qd JA Je Jj vop Jk Jr ev evs toV Ji Fr.dsTo Fr.glTo Fr.toNone Jf Jg Jh J9 Qu Jc Jy Jn V.undef JP JI JY JS JZ J7 J0 J1 JD J2 JV JT JQ J8 Jq Jo Jt Jw Jx Jp JL JM JC Qg Jaj Jak Q2
variable [Memo] [NY] [NZ]
end Go.Vm
namespace Go.Vm
open Go Go.Proofs Go.Pa
attribute [local simp] OkG Qa Qe OkD J3 Qd JA Je Jj vop Jk Jr ev evs toV Ji Fr.dsTo Fr.glTo Fr.toNone Jf Jg Jh J9 Qu Jc Jy Jn V.undef JP JI JY JS JZ J7 J0 J1 JD J2 JV JT JQ J8 Jq Jo Jt Jw Jx Jp JL JM JC Qg Jaj Jak Q2
variable [Memo] [NY] [NZ]
end Go.Vm
namespace Go.Vm
open Go Go.Proofs Go.Pa
attribute [local simp] OkG Qa Qe OkD J3 Qd JA Je Jj vop Jk Jr ev evs toV Ji Fr.dsTo Fr.glTo Fr.toNone Jf Jg Jh J9 Qu Jc Jy Jn V.undef JP JI JY JS JZ J7 J0 J1 JD J2 JV JT JQ J8 Jq Jo Jt Jw Jx Jp JL JM JC Qg Jaj Jak Q2
set_option maxRecDepth 100000 in
theorem i5 : ∃ i, Tryz.prog.info? 5 = some i ∧ i.size = 1 ∧ i.bytes ≤ 64 := ⟨_, rfl, by decide, by decide⟩
theorem zs5 : Q6 Tryz.prog 5 = some (.int .u8 0) := by kernel_rfl
theorem z90 : Qc Tryz.prog 39 = some 1 := by kernel_rfl
theorem a90 : QS Tryz.prog 39 = some false := by kernel_rfl
theorem z91 : Qc Tryz.prog 40 = some 1 := by kernel_rfl
theorem a91 : QS Tryz.prog 40 = some false := by kernel_rfl
theorem fb0 (id : Nat) : QT Tryz.prog 42 (.ptr id 0) 0 = some (.ptr id 0) := by kernel_rfl
theorem fb1 (id : Nat) : QT Tryz.prog 42 (.ptr id 0) 1 = some (.ptr id 1) := by kernel_rfl
theorem u91 : Tryz.prog.underlying 40 = some (.slice 5) := by kernel_rfl
theorem Jao (l : List UInt8) : (JU l).length = l.length := by simp [JU]
theorem JhV (a b : List UInt8) : JU (a ++ b) = JU a ++ JU b := by simp [JU]
theorem JeK (l : List UInt8) : (JU l).all QB = true := by simp [JU, QB]
theorem Jcu : ∀ l : List UInt8, JaR (JU l) = some l
 | [] => rfl
 | a :: l => by
  have ih := Jcu l
  simp only [JU, List.map_cons, JaR] at ih ⊢
  rw [ih]; simp
theorem JlZ {st : St} {x s : V} {l m : List V} {lo : Nat} (h : Mine lo 5 st x l) (hm : JfO st s m) (hlo : lo ≤ st.ctr) (hb : l.length + m.length ≤ 1000000000000) :
  ∃ y st', QO Tryz.prog st 40 x s = some (y, st') ∧ Low lo st st' ∧ Mine lo 5 st' y (l ++ m) ∧ (∀ i, vid y i → vid x i ∨ st.ctr ≤ i) ∧ ∀ i, i < st.ctr → ¬ vid x i → st'.box.get i = st.box.get i := by
 obtain ⟨i, hi, h1, h2⟩ := i5
 refine h.push2 u91 hi h1 zs5 rfl hm hlo ?_ (by simp [JG]; omega)
 refine Nat.le_trans (Nat.mul_le_mul hb h2) (by simp [JG])
theorem JhW (st : St) (s : S) : JfO st (.str s) (JU s.toList) := by
 refine ⟨?_, JeK _⟩
 simp only [Jag, Jao, S.len]
def Bld (lo b : Nat) (st : St) (l : List UInt8) : Prop := ∃ y, st.box.get b = some (.cells [.ptr b 0, y] 42 true (some 0)) ∧ lo ≤ b ∧ b < st.ctr ∧ Mine lo 5 st y (JU l) ∧ ¬ vid y b
theorem Jl0 : liesAt Tryz.prog Tryz.prog.depth 42 ([V.nilp, V.nils].length / Tryz.prog.cellsOf 42) 0 42 1 = true := by kernel_rfl
theorem u90 : Tryz.prog.underlying 39 = some (.pointer 42) := by kernel_rfl
theorem JmB : Tryz.prog.underlying 77 = some .unsafePointer := by kernel_rfl
theorem z93 : Qc Tryz.prog 42 = some 2 := by kernel_rfl
theorem JmC {st : St} {id : Nat} (hb : st.box.get id = some (.cells [.nilp, .nils] 42 true (some 0))) : QA Tryz.prog st 39 77 (.ptr id 0) = some (.ptr id 0) := by
 simp only [QA, u90, JmB, hb, z93]
 rfl
theorem JmD {st : St} {id : Nat} (hb : st.box.get id = some (.cells [.nilp, .nils] 42 true (some 0))) : QA Tryz.prog st 77 39 (.ptr id 0) = some (.ptr id 0) := by
 simp only [QA, u90, JmB, hb, z93, Jl0]
theorem Jks {id off : Nat} {kk : Bool} : Js Tryz.prog kk .eql 39 (.ptr id off) .nilp = some (.bool false) := by simp only [Js, u90]
theorem JiG {kk : Bool} : Js Tryz.prog kk .eql 39 .nilp .nilp = some (.bool true) := by cases kk <;> kernel_rfl
theorem JeL {id : Nat} {kk : Bool} : Js Tryz.prog kk .neq 39 (.ptr id 0) (.ptr id 0) = some (.bool false) := by
 simp only [Js, u90, z93, Nat.beq_refl]
 rfl
theorem JmE : Tryz.prog.underlying 67 = some (.pointer 5) := by kernel_rfl
theorem co5 : Tryz.prog.cellsOf 5 = 1 := by kernel_rfl
theorem JmZ {st : St} {lo m : Nat} {y : V} {l : List UInt8} (hm : Mine lo 5 st y (JU l)) (hlm : l.length = m + 1) (hl : l.length ≤ 1000000000000) :
  ∃ id cap st', y = .ms id 0 (m + 1) 1 cap ∧ JaT Tryz.prog { ctr := st.ctr + 12, box := st.box } 67 (.ptr id 0) (.int .i64 (l.length : Int)) = some (.str (S.ofList l), st') ∧ Low lo st st' := by
 generalize hb : JU l = bl at hm
 cases hm with
 | nils =>
  have := congrArg List.length hb
  rw [Jao] at this
  have h0 : l.length = 0 := this
  omega
 | ms id n cap cs fl hlo hid hbx hn hcap =>
  have hnl : n = l.length := by
   have := congrArg List.length hb
   rw [Jao, List.length_take, Nat.min_eq_left hn] at this
   exact this.symm
  have h1 : Nat.ble (0 + l.length) cs.length = true := Nat.ble_eq_true_of_le (by omega)
  have h2 : Nat.ble l.length JG = true := Nat.ble_eq_true_of_le (by simp [JG]; omega)
  have h3 : JaR (sub cs 0 l.length) = some l := by
   rw [show sub cs 0 l.length = JU l from by rw [hb, hnl]; rfl]
   exact Jcu l
  refine ⟨id, cap, { ctr := st.ctr + 12, box := st.box.put id (.cells cs 5 fl (some (Nat.max 0 (0 + l.length)))) }, by rw [← hlm, ← hnl], ?_, ⟨by show st.ctr ≤ st.ctr + 12; omega, fun i hi => by show (st.box.put id _).get i = _; rw [Tr.get_put, if_neg (by omega)]⟩⟩
  have ha : JaV (.int .i64 (l.length : Int)) = some (m + 1) := by rw [← hlm]; rfl
  simp only [JaT, ha, hbx, JmE, co5]
  rw [← hlm, h1, h2, h3]
  rfl
variable [Memo] [NY] [NZ]
omit [NZ] in
set_option maxRecDepth 100000 in
theorem JfY (gl : Gl) (st : St) (b : Nat) (y : V) (hb : st.box.get b = some (.cells [.ptr b 0, y] 42 true (some 0))) :
  Says Tryz.prog gl 41 [.ptr b 0] st (fun _v st' => Sm st st') := by
 refine Qm (NY.no _ rfl rfl rfl _ _) Tryz.func41 rfl (by kernel_rfl) fun R hR K gr gn => ?_
 generalize hfr : JJ gl [.ptr b 0] = fr
 have hF : Fs gl [(0, .ptr b 0)] fr := by subst hfr; simp [Fs]
 simp only [Fs] at hF
 clear hfr
 have l0 := Qx (P := Tryz.prog) (off := 0) a90 z90 hb rfl
 refine Ks_ (Ka_ (gs := [none, none, none, none, none]) fun K1 gK => ?_)
 simp (disch := omega) [hF, fb0, l0, Jks]
 refine gK _ _ (Kf_ (by simp (disch := omega) []) (Ks_ (Ka_ (gs := [none, none, none, none, none, none]) fun K1 gK => ?_)))
 simp (disch := omega) [hF, fb0, l0, JeL]
 refine gK _ _ (Kf_ (by simp (disch := omega) []) (Kk_ (gn _ _ ?_)))
 simp [JR, Tryz.f41, hF]
 refine hR _ _ ?_
 exact rfl
omit [NZ] in
set_option maxRecDepth 100000 in
theorem Je6 (gl : Gl) (st : St) (b : Nat) (hb : st.box.get b = some (.cells [.nilp, .nils] 42 true (some 0))) :
  Says Tryz.prog gl 41 [.ptr b 0] st (fun _v st' => st' = st.put b (.cells [.ptr b 0, .nils] 42 true (some 0))) := by
 refine Qm (NY.no _ rfl rfl rfl _ _) Tryz.func41 rfl (by kernel_rfl) fun R hR K gr gn => ?_
 generalize hfr : JJ gl [.ptr b 0] = fr
 have hF : Fs gl [(0, .ptr b 0)] fr := by subst hfr; simp [Fs]
 simp only [Fs] at hF
 clear hfr
 have l0 := Qx (P := Tryz.prog) (off := 0) a90 z90 hb rfl
 have c1 := JmC hb
 have c2 := JmD hb
 have w := Q1 (P := Tryz.prog) (t := 39) (off := 0) (v := .ptr b 0) z90 hb (by simp) rfl
 have hdoor : Jbc Tryz.prog (ihCall (W Tryz.prog)) gl 61 [.ptr b 0] st = .val (.ptr b 0) st := by
  have hn : Extern.findNext Tryz.f61 = none := by kernel_rfl
  have hx : Jbn Tryz.prog Tryz.f61 [.ptr b 0] = none := by
   simp only [Jbn, hn]
   cases Extern.find Tryz.f61 with
   | none => rfl
   | some e => rfl
  have hd : JiH Tryz.prog Tryz.f61 [.ptr b 0] st = some (.ptr b 0, st) := rfl
  simp only [Jbc, Tryz.func61, show (Tryz.f61.name == "runtime.NumGoroutine") = false from by kernel_rfl, show Tryz.f61.body = none from rfl, hx, hn, hd]
 refine Ks_ (Ka_ (gs := [none, none, none, none, none]) fun K1 gK => ?_)
 simp (disch := omega) [hF, fb0, l0, JiG]
 refine gK _ _ (Kt_ (by simp (disch := omega) []) (Ka_ (gs := [none, none, none, none, none, none, none, none]) fun K1 gK => ?_))
 simp (disch := omega) [hF, fb0, c1, c2, w, hdoor]
 refine gK _ _ (gn _ _ ?_)
 simp [JR, Tryz.f41, hF]
 refine hR _ _ ?_
 exact rfl
omit [NZ] in
set_option maxRecDepth 100000 in
theorem Jjg (gl : Gl) (st : St) (lo b : Nat) (l : List UInt8) (hb : Bld lo b st l) (hl : l.length ≤ 1000000000000) (hne : l ≠ []) :
  Says Tryz.prog gl 24 [.ptr b 0] st (fun v st' => (∃ t : S, v = .str t ∧ t.toList = l) ∧ Low lo st st') := by
 refine Qm (NY.no _ rfl rfl rfl _ _) Tryz.func24 rfl (by kernel_rfl) fun R hR K gr gn => ?_
 generalize hfr : JJ gl [.ptr b 0] = fr
 have hF : Fs gl [(0, .ptr b 0)] fr := by subst hfr; simp [Fs]
 simp only [Fs] at hF
 clear hfr
 obtain ⟨y, b1, hlo, hbc, hm, hv⟩ := hb
 have l1 := Qx (P := Tryz.prog) (off := 1) a91 z91 b1 rfl
 have ly := hm.len u91
 rw [Jao] at ly
 obtain ⟨m, hlm⟩ : ∃ m, l.length = m + 1 := ⟨l.length - 1, by have := List.length_pos_iff.2 hne; omega⟩
 obtain ⟨id, cap, q1, rfl, hu, hlow⟩ := JmZ hm hlm hl
 have vq : veq 1000000000 (.ms id 0 (m + 1) 1 cap) (.ms id 0 (m + 1) 1 cap) = true := Jaw _ (Nat.le_of_ble_eq_true rfl)
 refine Ks_ (Ka_ (gs := [none]) fun K1 gK => ?_)
 simp (disch := omega) []
 refine gK _ _ (Ks_ (Ki_ (b := [0, 1, 3, 7, 15, 0, 32, 96, 224, 480, 1023, 2047]) fun K1 gK => ?_))
 simp (disch := omega) [hF, fb1, l1, ly, vq, hu]
 refine gK _ _ (Kq_ (gr _ _ ?_))
 simp [JR, Tryz.f24, hF]
 refine hR _ _ ?_
 exact ⟨⟨_, rfl, S.toList_ofList l⟩, hlow⟩
end Go.Vm
namespace Go.Vm
open Go Go.Proofs Go.Pa
attribute [local simp] OkG Qa Qe OkD J3 Qd JA Je Jj vop Jk Jr ev evs toV Ji Fr.dsTo Fr.glTo Fr.toNone Jf Jg Jh J9 Qu Jc Jy Jn V.undef JP JI JY JS JZ J7 J0 J1 JD J2 JV JT JQ J8 Jq Jo Jt Jw Jx Jp JL JM JC Qg Jaj Jak Q2
variable [Memo] [NY] [NZ]
end Go.Vm
