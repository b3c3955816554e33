/- How Kinds are written: of their Kids' texts. -/
import Derived.Test.YtlmmgpmioaecnaaGreatDoorSz08
namespace Go.Vm
open Go Go.Proofs Go.Sy
set_option maxRecDepth 100000
attribute [local simp] OkP Jbg OkS Q0 OkG Ql QG OkD Qf J8 JT Jj Jo vop Js Jy ev evs toV Jn Fr.dsTo Fr.glTo Fr.toNone Jk Jl Jm J6 Qe Jc Jz Jw V.undef JU JO Qn Qo Qt Qp Qu Qv JN Qw Qx Qy J7 Qz Ji Jt JG Jq JI Jp JX J2 Jv JM JP JS JK
structure Tx (st : St) (x : V) (ts : List S) : Prop where
 v : Vw st x ts
 l : ts.length ≤ 300
 n : ∀ s ∈ ts, s.n ≤ 500000
theorem Tx.at {st : St} {x : V} {ts : List S} (h : Tx st x ts) {i : Nat} (hi : i < ts.length) : ∃ ad, Jd Tryz.prog 31 x (.int .i64 (i : Int)) = some ad ∧ (∀ st', Keep st st' → JB Tryz.prog st' 9 ad = some (.str ts[i])) ∧ ts[i].n ≤ 500000 := by
 have hx := h.v.ix Tryz.underlying31 z9 (k := .i64) (a := (i : Int)) (by omega) (by omega)
 exact ⟨_, hx, fun st' k => (h.v.keep k).ld z9 a9 hi, h.n _ (List.getElem_mem hi)⟩
theorem QY {ts : List S} {i : Nat} (h : i < ts.length) : (ts.map S.toList).getD i [] = ts[i].toList := by
 rw [List.getD_eq_getElem?_getD, List.getElem?_eq_getElem (by simpa using h), Option.getD_some, List.getElem_map]
variable [Memo] [NY] [NO]
set_option maxRecDepth 100000 in
omit [NO] in
theorem Jfw (gl : Gl) (st : St) (cs : List V) (ho : cs.all Ju = true) (x : V) (ts : List S) (hx : Tx st x ts) (b : Nat) (sep : S) (hb : SB st b sep) (h1 : 1 ≤ sep.n) (h2 : sep.n ≤ 10) :
  Says Tryz.prog gl 56 [.agg cs, x, .ptr b 0] st (fun v st' => (∃ z : S, v = .str z ∧ z.toList = J1 sep.toList (ts.map S.toList)) ∧ Keep st st') := by
 refine Qb (NY.no _ rfl rfl rfl _ _) Tryz.func56 rfl (by kernel_rfl) fun R hR K gr gn => ?_
 generalize hfr : JC gl [.agg cs, x, .ptr b 0] = fr
 have hF : Fs gl [(0, .agg cs), (1, x), (2, .ptr b 0)] fr := by subst hfr; simp [Fs]
 simp only [Fs] at hF
 clear hfr
 have kq := JL st cs 25
 have hbx := JZ st cs 25
 generalize QM st cs 25 = q0 at kq hbx
 have lb := (hb.keep kq).ld
 obtain ⟨v, s1, hj, ⟨z, rfl, hz⟩, k1⟩ := Says.use (JfD gl sep q0 x ts (hx.v.keep kq) h1 h2 (by have := hx.l; omega) (fun s hs => by have := hx.n s hs; omega))
 refine Ks_ (Ka_ (gs := [none, none]) fun K1 gK => ?_)
 simp (disch := omega) [hF, hbx, ho]
 refine gK _ _ (Ks_ (Ka_ (gs := [none, none, none, none]) fun K1 gK => ?_))
 simp (disch := omega) [hF, lb, hj]
 refine gK _ _ (Kq_ (gr _ _ ?_))
 simp [JW, Tryz.f56, hF]
 refine hR _ _ ?_
 exact ⟨⟨z, rfl, hz⟩, kq.trans k1⟩
set_option maxRecDepth 100000 in
omit [NO] in
theorem Jnr (gl : Gl) (st : St) (cs : List V) (ho : cs.all Ju = true) (x : V) (ts : List S) (hx : Tx st x ts) (h0 : 0 < ts.length) :
  Says Tryz.prog gl 62 [.agg cs, x] st (fun v st' => (∃ z : S, v = .str z ∧ z.toList = [33, 32] ++ (ts.map S.toList).getD 0 []) ∧ Keep st st') := by
 refine Qb (NY.no _ rfl rfl rfl _ _) Tryz.func62 rfl (by kernel_rfl) fun R hR K gr gn => ?_
 generalize hfr : JC gl [.agg cs, x] = fr
 have hF : Fs gl [(0, .agg cs), (1, x)] fr := by subst hfr; simp [Fs]
 simp only [Fs] at hF
 clear hfr
 have kq := JL st cs 25
 have hbx := JZ st cs 25
 generalize QM st cs 25 = q0 at kq hbx
 obtain ⟨ad, i0, l0, n0⟩ := hx.at h0
 have i0 : Jd Tryz.prog 31 x (.int .i64 0) = some ad := i0
 have l0 := l0 q0 kq
 obtain ⟨z1, a1, t1, m1⟩ := QE (P := Tryz.prog) (T := 9) (S.ofList [33, 32]) ts[0] (by rw [Jb]; simp; omega)
 refine Ks_ (Ka_ (gs := [none, none]) fun K1 gK => ?_)
 simp (disch := omega) [hF, hbx, ho]
 refine gK _ _ (Ks_ (Ka_ (gs := [none, none, none, none, none]) fun K1 gK => ?_))
 simp (disch := omega) [hF, i0, l0, a1]
 refine gK _ _ (Kq_ (gr _ _ ?_))
 simp [JW, Tryz.f62, hF]
 refine hR _ _ ?_
 exact ⟨⟨z1, rfl, by rw [t1, S.toList_ofList, QY h0]⟩, kq⟩
set_option maxHeartbeats 4000000 in
set_option maxRecDepth 100000 in
omit [NO] in
theorem JhV (gl : Gl) (st : St) (cs : List V) (ho : cs.all Ju = true) (x : V) (ts : List S) (hx : Tx st x ts) (b : Nat) (hd : S) (hb : SB st b hd) (hdn : hd.n ≤ 10) (h1 : 1 < ts.length) :
  Says Tryz.prog gl 58 [.agg cs, x, .ptr b 0] st (fun v st' => (∃ z : S, v = .str z ∧ z.toList = hd.toList ++ ([32] ++ ((ts.map S.toList).getD 0 [] ++ ([59, 32, 100, 111, 32] ++ ((ts.map S.toList).getD 1 [] ++ [59, 32, 100, 111, 110, 101]))))) ∧ Keep st st') := by
 refine Qb (NY.no _ rfl rfl rfl _ _) Tryz.func58 rfl (by kernel_rfl) fun R hR K gr gn => ?_
 generalize hfr : JC gl [.agg cs, x, .ptr b 0] = fr
 have hF : Fs gl [(0, .agg cs), (1, x), (2, .ptr b 0)] fr := by subst hfr; simp [Fs]
 simp only [Fs] at hF
 clear hfr
 have kq := JL st cs 25
 have hbx := JZ st cs 25
 generalize QM st cs 25 = q0 at kq hbx
 obtain ⟨ad, i0, l0, n0⟩ := hx.at (show 0 < ts.length by omega)
 have i0 : Jd Tryz.prog 31 x (.int .i64 0) = some ad := i0
 obtain ⟨ae, i1, l1, n1⟩ := hx.at h1
 have i1 : Jd Tryz.prog 31 x (.int .i64 1) = some ae := i1
 obtain ⟨qt, hqt, kt, _⟩ := Jb0 q0 13
 have la := l0 q0 kq
 have lb := l0 qt (kq.trans kt)
 have lc := l1 q0 kq
 have ld := l1 qt (kq.trans kt)
 have le := (hb.keep kq).ld
 have lf := (hb.keep (kq.trans kt)).ld
 obtain ⟨z1, a1, t1, m1⟩ := QE (P := Tryz.prog) (T := 9) hd (S.ofList [32]) (by rw [Jb]; simp; omega)
 rw [Jb] at m1
 simp only [List.length_cons, List.length_nil] at m1
 obtain ⟨z2, a2, t2, m2⟩ := QE (P := Tryz.prog) (T := 9) z1 ts[0] (by omega)
 obtain ⟨z3, a3, t3, m3⟩ := QE (P := Tryz.prog) (T := 9) z2 (S.ofList [59, 32, 100, 111, 32]) (by rw [Jb]; simp; omega)
 rw [Jb] at m3
 simp only [List.length_cons, List.length_nil] at m3
 obtain ⟨z4, a4, t4, m4⟩ := QE (P := Tryz.prog) (T := 9) z3 ts[1] (by omega)
 obtain ⟨z5, a5', t5, m5⟩ := QE (P := Tryz.prog) (T := 9) z4 (S.ofList [59, 32, 100, 111, 110, 101]) (by rw [Jb]; simp; omega)
 refine Ks_ (Ka_ (gs := [none, none]) fun K1 gK => ?_)
 simp (disch := omega) [hF, hbx, ho]
 refine gK _ _ (Ks_ (Kh_ (b := [0, 1, 0, 4, 12, 31, 63, 0, 128, 384, 1023, 2047, 4095]) (gs := [none, none, none, none, none, none, none, none, none, none, none, none, none]) fun K1 gK => ?_))
 simp (disch := omega) [hF, hqt, i0, i1, lb, ld, lf, a1, a2, a3, a4, a5']
 refine gK _ _ (Kq_ (gr _ _ ?_))
 simp [JW, Tryz.f58, hF]
 refine hR _ _ ?_
 exact ⟨⟨z5, rfl, by rw [t5, t4, t3, t2, t1, S.toList_ofList, S.toList_ofList, S.toList_ofList, QY (show 0 < ts.length by omega), QY h1]; simp only [List.append_assoc]⟩, kq.trans kt⟩
set_option maxHeartbeats 4000000 in
set_option maxRecDepth 100000 in
omit [NO] in
theorem Jor (gl : Gl) (st : St) (cs : List V) (ho : cs.all Ju = true) (x : V) (ts : List S) (hx : Tx st x ts) (h1 : 1 < ts.length) :
  Says Tryz.prog gl 63 [.agg cs, x] st (fun v st' => (∃ z : S, v = .str z ∧ z.toList = [105, 102, 32] ++ ((ts.map S.toList).getD 0 [] ++ ([59, 32, 116, 104, 101, 110, 32] ++ ((ts.map S.toList).getD 1 [] ++ (cond (decide (2 < ts.length)) ([59, 32, 101, 108, 115, 101, 32] ++ (ts.map S.toList).getD 2 []) [] ++ [59, 32, 102, 105]))))) ∧ Keep st st') := by
 refine Qb (NY.no _ rfl rfl rfl _ _) Tryz.func63 rfl (by kernel_rfl) fun R hR K gr gn => ?_
 generalize hfr : JC gl [.agg cs, x] = fr
 have hF : Fs gl [(0, .agg cs), (1, x)] fr := by subst hfr; simp [Fs]
 simp only [Fs] at hF
 clear hfr
 have kq := JL st cs 25
 have hbx := JZ st cs 25
 generalize QM st cs 25 = q0 at kq hbx
 obtain ⟨ad, i0, l0, n0⟩ := hx.at (show 0 < ts.length by omega)
 have i0 : Jd Tryz.prog 31 x (.int .i64 0) = some ad := i0
 obtain ⟨ae, i1, l1, n1⟩ := hx.at h1
 have i1 : Jd Tryz.prog 31 x (.int .i64 1) = some ae := i1
 obtain ⟨qt, hqt, kt, _⟩ := Jb0 q0 10
 have la := l0 q0 kq
 have lb := l0 qt (kq.trans kt)
 have lc := l1 q0 kq
 have ld := l1 qt (kq.trans kt)
 obtain ⟨z1, a1, t1, m1⟩ := QE (P := Tryz.prog) (T := 9) (S.ofList [105, 102, 32]) ts[0] (by rw [Jb]; simp; omega)
 rw [Jb] at m1
 simp only [List.length_cons, List.length_nil] at m1
 obtain ⟨z2, a2, t2, m2⟩ := QE (P := Tryz.prog) (T := 9) z1 (S.ofList [59, 32, 116, 104, 101, 110, 32]) (by rw [Jb]; simp; omega)
 rw [Jb] at m2
 simp only [List.length_cons, List.length_nil] at m2
 obtain ⟨z3, a3, t3, m3⟩ := QE (P := Tryz.prog) (T := 9) z2 ts[1] (by omega)
 have ll := hx.v.len Tryz.underlying31
 have hgt : ∀ kk, Je Tryz.prog kk .gtr 3 (.int .i64 (ts.length : Int)) (.int .i64 2) = some (.bool (decide (2 < ts.length))) := fun kk => J7
 obtain ⟨z6, a6, t6, m6⟩ := QE (P := Tryz.prog) (T := 9) z3 (S.ofList [59, 32, 102, 105]) (by rw [Jb]; simp; omega)
 refine Ks_ (Ka_ (gs := [none, none]) fun K1 gK => ?_)
 simp (disch := omega) [hF, hbx, ho]
 refine gK _ _ (Ks_ (Kh_ (b := [0, 1, 3, 7, 15, 0, 32, 96, 255, 511]) (gs := [none, none, none, none, none, none, none, none, none, none]) fun K1 gK => ?_))
 simp (disch := omega) [hF, hqt, i0, i1, lb, ld, a1, a2, a3]
 refine gK _ _ (Ks_ (Ks_ (Ka_ (gs := [none, none, none]) fun K1 gK => ?_)))
 simp (disch := omega) [hF, ll, hgt]
 refine gK _ _ ?_
 by_cases h2 : 2 < ts.length
 ·
  refine Kt_ (by simp (disch := omega) [h2]) ?_
  obtain ⟨af, i2, l2, n2⟩ := hx.at h2
  have i2 : Jd Tryz.prog 31 x (.int .i64 2) = some af := i2
  have l2 := l2 qt (kq.trans kt)
  obtain ⟨z4, a4, t4, m4⟩ := QE (P := Tryz.prog) (T := 9) (S.ofList [59, 32, 101, 108, 115, 101, 32]) ts[2] (by rw [Jb]; simp; omega)
  rw [Jb] at m4
  simp only [List.length_cons, List.length_nil] at m4
  obtain ⟨z5, a5', t5, m5⟩ := QE (P := Tryz.prog) (T := 9) z3 z4 (by omega)
  obtain ⟨z7, a7, t7, m7⟩ := QE (P := Tryz.prog) (T := 9) z5 (S.ofList [59, 32, 102, 105]) (by rw [Jb]; simp; omega)
  refine Ka_ (gs := [none, none, none, none, none, none, none]) fun K1 gK => ?_
  simp (disch := omega) [hF, h2, i2, l2, a4, a5']
  refine gK _ _ (Ks_ (Ka_ (gs := [none, none, none]) fun K1 gK => ?_))
  simp (disch := omega) [a7]
  refine gK _ _ (Kq_ (gr _ _ ?_))
  simp [JW, Tryz.f63, hF]
  refine hR _ _ ?_
  refine ⟨⟨z7, rfl, ?_⟩, kq.trans kt⟩
  rw [t7, t5, t4, t3, t2, t1, S.toList_ofList, S.toList_ofList, S.toList_ofList, S.toList_ofList, QY (show 0 < ts.length by omega), QY h1, QY h2, decide_eq_true h2, cond_true]
  simp only [List.append_assoc]
 ·
  refine Kf_ (by simp (disch := omega) [h2]) (Kk_ (Ks_ (Ka_ (gs := [none, none, none]) fun K1 gK => ?_)))
  simp (disch := omega) [h2, a6]
  refine gK _ _ (Kq_ (gr _ _ ?_))
  simp [JW, Tryz.f63, hF]
  refine hR _ _ ?_
  refine ⟨⟨z6, rfl, ?_⟩, kq.trans kt⟩
  rw [t6, t3, t2, t1, S.toList_ofList, S.toList_ofList, S.toList_ofList, QY (show 0 < ts.length by omega), QY h1, decide_eq_false h2, cond_false]
  simp only [List.append_assoc, List.nil_append]
end Go.Vm
namespace Go.Vm
open Go Go.Proofs Go.Sy
set_option maxRecDepth 100000
attribute [local simp] OkP Jbg OkS Q0 OkG Ql QG OkD Qf J8 JT Jj Jo vop Js Jy ev evs toV Jn Fr.dsTo Fr.glTo Fr.toNone Jk Jl Jm J6 Qe Jc Jz Jw V.undef JU JO Qn Qo Qt Qp Qu Qv JN Qw Qx Qy J7 Qz Ji Jt JG Jq JI Jp JX J2 Jv JM JP JS JK
theorem JiT (s : S) : s.same (S.ofList []) = decide (s.n = 0) := by
 rw [S.same_eq, S.toList_ofList]
 have := S.len s
 rw [Bool.eq_iff_iff, decide_eq_true_iff]
 cases h : s.toList with
 | nil => rw [h] at this; simp at this; simp; omega
 | cons a b => rw [h] at this; simp at this; simp; omega
theorem Jl0 {α : Type} (f : α → Nat) (B : Nat) : ∀ l : List α, (∀ a ∈ l, f a ≤ B) → (l.map f).sum ≤ l.length * B
 | [], _ => by simp
 | a :: l, h => by
  have h1 := Jl0 f B l fun b hb => h b (by simp [hb])
  have h2 := h a (by simp)
  simp only [List.map_cons, List.sum_cons, List.length_cons, Nat.succ_mul]; omega
theorem wFit.ln {l : List Wp} (h : wFit l) : wln l ≤ 400501 := by
 have h1 := Jl0 (fun p : Wp => 5 + 2 * p.t.n) 4005 l fun p hp => by have := h.2 p hp; show 5 + 2 * p.t.n ≤ 4005; omega
 have h2 := Nat.mul_le_mul_right 4005 h.1
 unfold wln; omega
theorem WsS.of {ws : List Ww} (hl : ws.length ≤ 300) (h : ∀ w ∈ ws, wFit w.l) : WsS (ws.map Ww.l) := by
 refine ⟨by rw [List.length_map]; omega, fun l hlm => ?_⟩
 obtain ⟨w, hw, rfl⟩ := List.mem_map.1 hlm
 have h1 := h w hw
 refine ⟨by have := h1.1; omega, fun p hp => by have := h1.2 p hp; omega, ?_⟩
 have h2 := Jff w.l
 have h3 := h1.ln
 omega
theorem Jl1 {nq : S} {l : List Wp} {B : Nat} (h : ∀ p ∈ l, p.t.n ≤ B) : ∀ p ∈ Jbv nq l, p.t.n ≤ nq.n + B := by
 intro p hp
 cases hh : hdB l with
 | false =>
  rw [Jd1 hh] at hp
  rcases List.mem_cons.1 hp with rfl | hp
  ·exact Nat.le_add_right _ _
  ·have := h p hp; omega
 | true =>
  cases l with
  | nil => cases hh
  | cons q r =>
   rw [JcZ hh] at hp
   rcases List.mem_cons.1 hp with rfl | hp
   ·have := h q (by simp)
    show (nq.app q.t).n ≤ _
    rw [Jby]; omega
   ·have := h p (by simp [hp]); omega
theorem WsS.asg {nm : S} {l : List Wp} (hn : nm.n ≤ 300) (h : wFit l) : WsS [Jbv (nm.app (S.ofList [61])) l] := by
 have hq : (nm.app (S.ofList [61])).n = nm.n + 1 := by rw [Jby, Jb]; rfl
 refine ⟨by simp, fun m hm => ?_⟩
 rw [List.mem_singleton] at hm
 subst hm
 have h1 := JfR (nm.app (S.ofList [61])) l
 have h2 := Jff (Jbv (nm.app (S.ofList [61])) l)
 have h3 := Jj9 (nm.app (S.ofList [61])) l
 have h4 := h.ln
 refine ⟨by have := h.1; omega, fun p hp => by have := Jl1 h.2 p hp; omega, by omega⟩
theorem Jo6 {st : St} {y : V} {l : List Wp} {a : Int} (h : Vp st y l) : Qc Tryz.prog 22 1 [(0, .agg [y, .int .i64 a])] = some ([y, .int .i64 a], 41, 2) := by cases h <;> kernel_rfl
theorem WsR.one {st : St} {id : Nat} {y : V} {a : Int} {l : List Wp} (hid : id < st.ctr) (hb : st.box.get id = some (.cells [y, .int .i64 a] 41 true (some 0))) (h : Vp st y l) : WsR st (.ms id 0 1 2 (some 1)) [[y, .int .i64 a]] [l] := by
 refine ⟨?_, rfl, fun i h1 h2 => ?_⟩
 ·exact Sv.ms (z := 2) (st := st) id 0 (some 1) _ 41 true (some 0) [[y, .int .i64 a]] (by simp [Rz]) hb (by simp [sub]) (by simp) hid rfl
 ·have : i = 0 := by simpa using h1
  subst this
  exact ⟨y, a, rfl, h⟩
variable [Memo] [NY] [NO]
set_option maxHeartbeats 4000000 in
set_option maxRecDepth 100000 in
theorem JiU (gl : Gl) {aL : List V} (hh : Hits gl aL) (st : St) (k : Nat) (a : Int) (nm : S) (wv : V) (ws : List Ww) (kv : V) (hw : Row Ww.cells wv ws) (hok : ∀ w ∈ ws, w.ok) (hko : Ju kv = true) (hn : nm.n ≤ 300) (hl : ws.length ≤ 300) (hf : ∀ w ∈ ws, wFit w.l) (h0 : nm.n ≠ 0 → 0 < ws.length) (x : V) (t : List (List UInt8)) :
  Says Tryz.prog gl 59 [.agg [.int .u8 (k : Int), .int .i64 a, .str nm, wv, kv], x] st (fun v st' => (∃ z : S, v = .str z ∧ z.toList = JaL 1 nm (ws.map Ww.l) t) ∧ Keep st st') := by
 refine Qb (NY.no _ rfl rfl rfl _ _) Tryz.func59 rfl (by kernel_rfl) fun R hR K gr gn => ?_
 generalize hfr : JC gl [.agg [.int .u8 (k : Int), .int .i64 a, .str nm, wv, kv], x] = fr
 have hF : Fs gl [(0, .agg [.int .u8 (k : Int), .int .i64 a, .str nm, wv, kv]), (1, x)] fr := by subst hfr; simp [Fs]
 simp only [Fs] at hF
 clear hfr
 have ho := Jge (k := k) (a := a) (nm := nm) hw.one hko
 have kq := JL st [.int .u8 (k : Int), .int .i64 a, .str nm, wv, kv] 25
 have hb := JZ st [.int .u8 (k : Int), .int .i64 a, .str nm, wv, kv] 25
 have hC := CB.new (st := st) (k := k) (a := a) (nm := nm) (wv := wv) (kv := kv)
 generalize QM st [.int .u8 (k : Int), .int .i64 a, .str nm, wv, kv] 25 = q0 at kq hb hC
 have l2 := hC.ld.l2
 have l3 := hC.ld.l3
 have lc := hC.ld.l
 have hne : ∀ kk, Je Tryz.prog kk .neq 9 (.str nm) (.str (S.ofList [])) = some (.bool (!decide (nm.n = 0))) := fun kk => by rw [Jt, JiT]
 obtain ⟨E, hE⟩ : ∃ b, decide (nm.n = 0) = b := ⟨_, rfl⟩
 rw [hE] at hne
 refine Ks_ (Ka_ (gs := [none, none]) fun K1 gK => ?_)
 simp (disch := omega) [hF, hb, ho]
 refine gK _ _ (Ks_ (Ks_ (Ka_ (gs := [none, none, none]) fun K1 gK => ?_)))
 simp (disch := omega) [cg2, l2, hne]
 refine gK _ _ ?_
 cases E with
 | true =>
  refine Kf_ (by simp (disch := omega) []) ?_
  have hn0 : nm.n = 0 := of_decide_eq_true hE
  obtain ⟨v, s1, hc, ⟨z, rfl, hz⟩, k1⟩ := Says.use (JfG gl hh q0 wv _ _ ((hw.wsr hok st).keep kq) (WsS.of hl hf))
  refine Kk_ (Ks_ (Ka_ (gs := [none, none, none, none]) fun K1 gK => ?_))
  simp (disch := omega) [hF, cg3, l3, hc]
  refine gK _ _ (Kq_ (gr _ _ ?_))
  simp [JW, Tryz.f59, hF]
  refine hR _ _ ?_
  exact ⟨⟨z, rfl, by rw [hz]; unfold JaL; rw [if_pos rfl, if_pos hn0]⟩, kq.trans k1⟩
 | false =>
  refine Kt_ (by simp (disch := omega) []) ?_
  have hn0 : nm.n ≠ 0 := of_decide_eq_false hE
  have hwp := h0 hn0
  have hm0 := List.getElem_mem hwp
  have hf0 := hf _ hm0
  obtain ⟨v, s1, hc, ⟨y, b, rfl, hv⟩, k1⟩ := Says.use (JnF gl q0 k a nm wv ws kv hw hwp (hok _ hm0) hko (by have := hf0.1; omega) (by omega) (fun p hp => by have := hf0.2 p hp; omega))
  have b22 := Jo6 (a := b) hv
  have oy : ([y, .int .i64 b] : List V).all Ju = true := by simp only [List.all_cons, hv.one]; rfl
  have kr := JL s1 [y, .int .i64 b] 41
  have br := Jaf s1 [y, .int .i64 b] 41
  have hr := JZ s1 [y, .int .i64 b] 41
  have cr := Jae s1 [y, .int .i64 b] 41
  generalize QM s1 [y, .int .i64 b] 41 = s2 at kr br hr cr
  obtain ⟨v, s3, hc3, ⟨z, rfl, hz⟩, k3⟩ := Says.use (JfG gl hh s2 _ _ _ (WsR.one (by omega) br (hv.keep kr)) (WsS.asg hn hf0))
  refine Ks_ (Ka_ (gs := [none, none, none, none, none]) fun K1 gK => ?_)
  simp (disch := omega) [hF, lc, hc, b22, oy, hr, hc3, Jx]
  refine gK _ _ (Kq_ (gr _ _ ?_))
  simp [JW, Tryz.f59, hF]
  refine hR _ _ ?_
  refine ⟨⟨z, rfl, ?_⟩, kq.trans (k1.trans (kr.trans k3))⟩
  rw [hz]
  unfold JaL
  rw [if_pos rfl, if_neg hn0]
  have : (ws.map Ww.l).headD [] = ws[0].l := by cases ws with
   | nil => simp at hwp
   | cons w r => rfl
  rw [this]
  simp [J1]
set_option maxHeartbeats 4000000 in
set_option maxRecDepth 100000 in
theorem Jns (gl : Gl) {aL : List V} (hh : Hits gl aL) (st : St) (k : Nat) (a : Int) (nm : S) (wv : V) (ws : List Ww) (kv : V) (hw : Row Ww.cells wv ws) (hok : ∀ w ∈ ws, w.ok) (hko : Ju kv = true) (hn : nm.n ≤ 300) (hl : ws.length ≤ 300) (hf : ∀ w ∈ ws, wFit w.l) (hz0 : (J1 [32] ((ws.map Ww.l).map wTxt)).length ≤ 500000) (hm : ws.all Ww.may = true) (hwz : vsz wv < 10000000) (x : V) (ts : List S) (hx : Tx st x ts) (h1 : 0 < ts.length) :
  Says Tryz.prog gl 64 [.agg [.int .u8 (k : Int), .int .i64 a, .str nm, wv, kv], x] st (fun v st' => (∃ z : S, v = .str z ∧ z.toList = JaL 9 nm (ws.map Ww.l) (ts.map S.toList)) ∧ Keep st st') := by
 refine Qb (NY.no _ rfl rfl rfl _ _) Tryz.func64 rfl (by kernel_rfl) fun R hR K gr gn => ?_
 generalize hfr : JC gl [.agg [.int .u8 (k : Int), .int .i64 a, .str nm, wv, kv], x] = fr
 have hF : Fs gl [(0, .agg [.int .u8 (k : Int), .int .i64 a, .str nm, wv, kv]), (1, x)] fr := by subst hfr; simp [Fs]
 simp only [Fs] at hF
 clear hfr
 have ho := Jge (k := k) (a := a) (nm := nm) hw.one hko
 have kq := JL st [.int .u8 (k : Int), .int .i64 a, .str nm, wv, kv] 25
 have hb := JZ st [.int .u8 (k : Int), .int .i64 a, .str nm, wv, kv] 25
 have hC := CB.new (st := st) (k := k) (a := a) (nm := nm) (wv := wv) (kv := kv)
 generalize QM st [.int .u8 (k : Int), .int .i64 a, .str nm, wv, kv] 25 = q0 at kq hb hC
 have l3 := hC.ld.l3
 obtain ⟨qt, hqt, kt, _⟩ := Jb0 q0 16
 have l3t := (hC.keep kt).ld.l3
 have vq : veq 1000000000 wv wv = true := Jag _ (by omega)
 obtain ⟨v, s1, hc, ⟨z, rfl, hz⟩, k1⟩ := Says.use (JfG gl hh qt wv _ _ ((hw.wsr hok st).keep (kq.trans kt)) (WsS.of hl hf))
 have hzn : z.n ≤ 500000 := by rw [← S.len, hz]; exact hz0
 have l2 := (hC.keep (kt.trans k1)).ld.l2
 obtain ⟨z1, a1, t1, m1⟩ := QE (P := Tryz.prog) (T := 9) (S.ofList [102, 111, 114, 32]) nm (by rw [Jb]; simp; omega)
 rw [Jb] at m1
 simp only [List.length_cons, List.length_nil] at m1
 obtain ⟨z2, a2, t2, m2⟩ := QE (P := Tryz.prog) (T := 9) z1 (S.ofList [32, 105, 110, 32]) (by rw [Jb]; simp; omega)
 rw [Jb] at m2
 simp only [List.length_cons, List.length_nil] at m2
 obtain ⟨z3, a3, t3, m3⟩ := QE (P := Tryz.prog) (T := 9) z2 z (by omega)
 obtain ⟨v, s2, hc2, ⟨z4, rfl, hz4⟩, rfl⟩ := Says.use (Jnz gl s1 z3 (by omega))
 have l2t := (hC.keep kt).ld.l2
 have t3' : z3.toList = ([102, 111, 114, 32] ++ (nm.toList ++ [32, 105, 110])) ++ (32 :: J1 [32] ((ws.map Ww.l).map wTxt)) := by
  rw [t3, t2, t1, hz, S.toList_ofList, S.toList_ofList]; simp
 rw [t3', Jk2 _ _ (Jk5 hm)] at hz4
 have hz4n : z4.n ≤ 600000 := by
  rw [← S.len, hz4]
  simp only [List.length_append, List.length_cons, List.length_nil, S.len]
  cases (J1 [32] ((ws.map Ww.l).map wTxt)).isEmpty <;> simp only [cond_true, cond_false, List.length_cons, List.length_nil] <;> omega
 obtain ⟨ad, i0, l0, n0⟩ := hx.at h1
 have i0 : Jd Tryz.prog 31 x (.int .i64 0) = some ad := i0
 have la := l0 s2 (kq.trans (kt.trans k1))
 have lb := l0 qt (kq.trans kt)
 obtain ⟨z5, a5', t5, m5⟩ := QE (P := Tryz.prog) (T := 9) z4 (S.ofList [59, 32, 100, 111, 32]) (by rw [Jb]; simp; omega)
 rw [Jb] at m5
 simp only [List.length_cons, List.length_nil] at m5
 obtain ⟨z6, a6, t6, m6⟩ := QE (P := Tryz.prog) (T := 9) z5 ts[0] (by omega)
 obtain ⟨z7, a7, t7, m7⟩ := QE (P := Tryz.prog) (T := 9) z6 (S.ofList [59, 32, 100, 111, 110, 101]) (by rw [Jb]; simp; omega)
 refine Ks_ (Ka_ (gs := [none, none]) fun K1 gK => ?_)
 simp (disch := omega) [hF, hb, ho]
 refine gK _ _ (Ks_ (Kj_ (b := [0, 1, 3, 7, 0, 16, 48, 127, 255, 511, 0, 1024, 3072, 8191, 16383, 32767]) (rs := [(4, 3), (0, 4), (7, 9)]) fun K1 gK => ?_))
 simp (disch := omega) [hF, hqt, l3t, l2t, vq, cg2, cg3, l2, hc, a1, a2, a3, hc2, i0, la, lb, a5', a6, a7]
 refine gK _ _ (Kq_ (gr _ _ ?_))
 simp [JW, Tryz.f64, hF]
 refine hR _ _ ?_
 refine ⟨⟨z7, rfl, ?_⟩, kq.trans (kt.trans k1)⟩
 rw [t7, t6, t5, hz4, S.toList_ofList, S.toList_ofList]
 unfold JaL
 rw [if_neg (by decide), if_neg (by decide), if_neg (by decide), if_neg (by decide), if_neg (by decide), if_neg (by decide), if_neg (by decide), if_neg (by decide), QY h1]
 simp only [List.append_assoc]
end Go.Vm
namespace Go.Vm
open Go Go.Proofs Go.Sy
set_option maxRecDepth 100000
attribute [local simp] OkG Ql QG OkD Qf J8 JT Jj Jo vop Js Jy ev evs toV Jn Fr.dsTo Fr.glTo Fr.toNone Jk Jl Jm J6 Qe Jc Jz Jw V.undef JU JO Qn Qo Qt Qp Qu Qv JN Qw Qx Qy J7 Qz Ji Jt JG Jq JI Jp JX J2 Jv JM JP JS JK
theorem JeF {k n : Nat} {nm : S} {ws : List Ww} (h : JcJ k n nm ws = true) :
  (k = 1 ∧ (nm.n ≠ 0 → 0 < ws.length)) ∨ (k = 2 ∧ 0 < n) ∨ (k = 3 ∧ n = 2) ∨ (k = 4 ∧ n = 2) ∨ (k = 5 ∧ 1 < n) ∨ (k = 6 ∧ 1 < n ∧ n ≤ 3) ∨ (k = 7 ∧ 1 < n) ∨ (k = 8 ∧ 1 < n) ∨ (k = 9 ∧ 0 < n ∧ ws.all Ww.may = true) := by
 unfold JcJ Jko at h
 by_cases h1 : k = 1
 ·rw [decide_eq_true h1, cond_true, Bool.and_eq_true] at h
  refine .inl ⟨h1, fun hn => ?_⟩
  have h2 := h.2
  unfold Jbo at h2
  rw [if_neg hn] at h2
  simp only [Bool.and_eq_true, decide_eq_true_iff] at h2
  have := h2.1.2
  omega
 rw [decide_eq_false h1, cond_false] at h
 by_cases h2 : k = 2
 ·rw [decide_eq_true h2, cond_true, Bool.and_eq_true, decide_eq_true_iff] at h
  exact .inr (.inl ⟨h2, by omega⟩)
 rw [decide_eq_false h2, cond_false] at h
 by_cases h3 : k = 3
 ·rw [decide_eq_true h3, cond_true, cond_true, Bool.and_eq_true, decide_eq_true_iff] at h
  exact .inr (.inr (.inl ⟨h3, by omega⟩))
 rw [decide_eq_false h3, cond_false] at h
 by_cases h4 : k = 4
 ·rw [decide_eq_true h4, cond_true, cond_true, Bool.and_eq_true, decide_eq_true_iff] at h
  exact .inr (.inr (.inr (.inl ⟨h4, by omega⟩)))
 rw [decide_eq_false h4, cond_false] at h
 by_cases h7 : k = 7
 ·rw [decide_eq_true h7, cond_true, cond_true, Bool.and_eq_true, decide_eq_true_iff] at h
  exact .inr (.inr (.inr (.inr (.inr (.inr (.inl ⟨h7, by omega⟩))))))
 rw [decide_eq_false h7, cond_false] at h
 by_cases h8 : k = 8
 ·rw [decide_eq_true h8, cond_true, Bool.and_eq_true, decide_eq_true_iff] at h
  exact .inr (.inr (.inr (.inr (.inr (.inr (.inr (.inl ⟨h8, by omega⟩)))))))
 rw [decide_eq_false h8, cond_false] at h
 by_cases h5 : k = 5
 ·rw [decide_eq_true h5, cond_true, Bool.and_eq_true, decide_eq_true_iff] at h
  exact .inr (.inr (.inr (.inr (.inl ⟨h5, by omega⟩))))
 rw [decide_eq_false h5, cond_false] at h
 by_cases h6 : k = 6
 ·rw [decide_eq_true h6, cond_true, Bool.and_eq_true, Bool.or_eq_true, decide_eq_true_iff, decide_eq_true_iff] at h
  exact .inr (.inr (.inr (.inr (.inr (.inl ⟨h6, by omega, by omega⟩)))))
 rw [decide_eq_false h6, cond_false] at h
 by_cases h9 : k = 9
 ·rw [decide_eq_true h9, cond_true, Bool.and_eq_true, decide_eq_true_iff] at h
  refine .inr (.inr (.inr (.inr (.inr (.inr (.inr (.inr ⟨h9, by omega, ?_⟩)))))))
  have := h.2
  unfold Jln at this
  simp only [Bool.and_eq_true] at this
  exact this.2
 rw [decide_eq_false h9, cond_false] at h
 cases h
theorem Jg6 {a : List UInt8} : ∀ {l : List (List UInt8)}, a ∈ l → a.length ≤ tot l
 | b :: r, h => by
  rcases List.mem_cons.1 h with rfl | h
  ·simp [tot]
  ·have := Jg6 h
   simp only [tot, List.map_cons, List.sum_cons] at this ⊢; omega
def JdB [Memo] (gl : Gl) (f : Nat) (c : Cw) : Prop := ∀ st : St, Says Tryz.prog gl f [.agg c.cells] st fun v st' => (∃ z : S, v = .str z ∧ z.toList = txC c) ∧ Keep st st'
variable [Memo] [NY] [NO]
set_option maxHeartbeats 4000000 in
set_option maxRecDepth 100000 in
omit [NO] in
theorem JhW (gl : Gl) (st : St) (k : Nat) (a : Int) (nm : S) (wv kv : V) (kids : List Cw) (how : Ju wv = true) (hkv : Row Cw.cells kv kids) (hok : ∀ c ∈ kids, c.ok) (hfit : ∀ c ∈ kids, Fit c) (hl : kids.length ≤ 300) (hsz : JbQ kids ≤ 450) (ih : ∀ c ∈ kids, JdB gl 17 c) :
  Says Tryz.prog gl 16 [.agg [.int .u8 (k : Int), .int .i64 a, .str nm, wv, kv]] st (fun v st' => (∃ ts, Tx st' v ts ∧ ts.map S.toList = Jab k 0 kids ∧ Mine st.ctr 9 st' v (ts.map .str)) ∧ Keep st st') := by
 refine Qb (NY.no _ rfl rfl rfl _ _) Tryz.func16 rfl (by kernel_rfl) fun R hR K gr gn => ?_
 generalize hfr : JC gl [.agg [.int .u8 (k : Int), .int .i64 a, .str nm, wv, kv]] = fr
 have hF : Fs gl [(0, .agg [.int .u8 (k : Int), .int .i64 a, .str nm, wv, kv])] fr := by subst hfr; simp [Fs]
 simp only [Fs] at hF
 clear hfr
 have hlen : ∀ c ∈ kids, (txC c).length ≤ 450000 := fun c hc => by
  have h1 := JdY (hfit c hc)
  have h2 := Jbu hc
  omega
 have ho := Jge (k := k) (a := a) (nm := nm) how hkv.one
 have kq := JL st [.int .u8 (k : Int), .int .i64 a, .str nm, wv, kv] 25
 have hb := JZ st [.int .u8 (k : Int), .int .i64 a, .str nm, wv, kv] 25
 have hC := CB.new (st := st) (k := k) (a := a) (nm := nm) (wv := wv) (kv := kv)
 generalize QM st [.int .u8 (k : Int), .int .i64 a, .str nm, wv, kv] 25 = q0 at kq hb hC
 have l4 := hC.ld.l4
 have lk := hkv.len Tryz.underlying23
 refine Ks_ (Ka_ (gs := [none, none]) fun K1 gK => ?_)
 simp (disch := omega) [hF, hb, ho]
 refine gK _ _ (Ks_ (Ka_ (gs := [none]) fun K1 gK => ?_))
 simp (disch := omega) []
 refine gK _ _ (Ks_ (Ks_ (Ka_ (gs := [none, none, none, none]) fun K1 gK => ?_)))
 simp (disch := omega) [cg4, l4, lk]
 refine gK _ _ ?_
 refine Kl_ (kids.length) (fun i fr st' => ∃ (out : V) (ts : List S), Fs gl [(1, .ptr st.ctr 0), (3, out), (8, kv), (9, .int .i64 (kids.length : Int)), (10, .int .i64 (i : Int))] fr ∧ i ≤ kids.length ∧ Keep q0 st' ∧ Mine q0.ctr 9 st' out (ts.map .str) ∧ ts.map S.toList = Jab k 0 (kids.take i)) (0) (fun fr st' => ∃ (out : V) (ts : List S), Fs gl [(3, out)] fr ∧ Keep q0 st' ∧ Mine q0.ctr 9 st' out (ts.map .str) ∧ ts.map S.toList = Jab k 0 kids) ?_ ?_ ?_ ?_
 ·exact ⟨.nils, [], by simp [Fs, hF], Nat.zero_le _, .refl _, .nils, rfl⟩
 ·rintro i fr st' ⟨out, ts, _, hi, hk, hm, hts⟩
  omega
 ·as_aux_lemma =>
  clear hF
  rintro i fr st' ⟨out, ts, hF, hi, hk, hm, hts⟩ K1 gk1 gx1 go1
  simp only [Fs] at hF
  refine Ks_ (Ka_ (gs := [none]) fun K1 gK => ?_)
  simp (disch := omega) [hF]
  refine gK _ _ (Ks_ ?_)
  by_cases hlt : i < kids.length
  ·
   refine Kt_ (by simp (disch := omega) [hlt]) ?_
   have hmem := List.getElem_mem hlt
   obtain ⟨rr, hi1⟩ := hkv.get (fun c _ => c.len5) Tryz.underlying23 z25 hlt
   have hi1 := hi1 .i64
   have x2 := JdE kids[i] rr
   have hps := JcD st' (hok _ hmem)
   have kp := Jc5 st' kids[i]
   have bp := JbG (JdK st' kids[i])
   have cp := Jjc st' kids[i]
   generalize Jcd st' kids[i] = p1 at hps kp bp cp
   obtain ⟨v, s1, hc, ⟨z, rfl, hz⟩, k1⟩ := Says.use (ih _ hmem p1)
   have hzn : z.n ≤ 450000 := by rw [← S.len, hz]; exact hlen _ hmem
   have lcm := (hC.keep (hk.trans (kp.trans k1))).ld.l
   obtain ⟨v, s2, hc2, rfl, k2⟩ := Says.use (Jk7 gl s1 k a nm wv kv kids i hkv how hlt)
   obtain ⟨B, hB⟩ : ∃ b, brB k kids[i].kind i = b := ⟨_, rfl⟩
   rw [hB] at hc2
   obtain ⟨z1, a1, t1, m1⟩ := QE (P := Tryz.prog) (T := 9) (S.ofList [123, 32]) z (by rw [Jb]; simp; omega)
   rw [Jb] at m1
   simp only [List.length_cons, List.length_nil] at m1
   obtain ⟨z2, a2, t2, m2⟩ := QE (P := Tryz.prog) (T := 9) z1 (S.ofList [59, 32, 125]) (by rw [Jb]; simp; omega)
   have hkk := hk.trans (kp.trans (k1.trans k2))
   refine Kk_ (Ks_ ?_)
   refine Kb_ fun K2 gn2 gx2 go2 => ?_
   refine Ks_ (Ka_ (gs := [none, none, none, none, none, none]) fun K1 gK => ?_)
   simp (disch := omega) [hF, hlt, hi1, x2, Jeu, hps, Ju]
   refine gK _ _ (Ks_ (Ka_ (gs := [none, none, none]) fun K1 gK => ?_))
   simp (disch := omega) [hF, bp, hc]
   refine gK _ _ (Ks_ (Ks_ (Ka_ (gs := [none, none, none]) fun K1 gK => ?_)))
   simp (disch := omega) [hF, lcm, hc2]
   refine gK _ _ ?_
   refine Km_ (fun fr st' => ∃ (w : S), Fs gl [(1, .ptr st.ctr 0), (3, out), (6, .str w), (8, kv), (9, .int .i64 (kids.length : Int)), (10, .int .i64 (i : Int))] fr ∧ s2 = st' ∧ w.toList = brT B (txC kids[i])) ?_ ?_
   ·as_aux_lemma =>
    intro K3 gm3 go3
    cases B with
    | true =>
     refine Kt_ (by simp (disch := omega) []) (Ka_ (gs := [none, none, none, none]) fun K1 gK => ?_)
     simp (disch := omega) [a1, a2]
     refine gK _ _ ?_
     exact gm3 _ _ ⟨z2, by simp [Fs, hF], rfl, by (rw [t2, t1, hz, S.toList_ofList, S.toList_ofList]; simp [brT])⟩
    | false =>
     refine Kf_ (by simp (disch := omega) []) (Kk_ ?_)
     exact gm3 _ _ ⟨z, by simp [Fs, hF], rfl, hz⟩
   ·as_aux_lemma =>
    clear hF
    rintro fr st' ⟨w, hF, rfl, hw⟩
    simp only [Fs] at hF
    obtain ⟨u, hu⟩ : ∃ q, q = s2.new (.cells [.str w] 9 true (some 0)) := ⟨_, rfl⟩
    have ku : Keep s2 u := by rw [hu]; exact (Keep.refl s2).new' _
    have cu : u.ctr = s2.ctr + 1 := by rw [hu]; rfl
    have gu : u.box.get s2.ctr = some (.cells [.str w] 9 true (some 0)) := by rw [hu, Q9, if_pos rfl]
    have hfu : ({ ctr := s2.ctr + 1, box := s2.box.put s2.ctr (.cells [.str w] 9 true (some 0)) } : St) = u := by rw [hu]; rfl
    clear hu
    have hku := hkk.trans ku
    have hkc := hkk.ctr
    have hkuc := hku.ctr
    have htl : ts.length = i := by
     have := congrArg List.length hts
     rw [List.length_map, JaI, List.length_take, Nat.min_eq_left hi] at this
     exact this
    obtain ⟨y, s4, e4, low4, m4, _⟩ := JfL (hm.keep ((kp.trans (k1.trans k2)).trans ku)) ((JgI (lo := 0) (by omega) (by omega) gu).src rfl) (by omega) (by simp; omega)
    simp only [List.length_cons, List.length_nil] at e4
    refine Ka_ (gs := [none, none, none, none, none]) fun K1 gK => ?_
    simp (disch := omega) [hF, bs1, hfu, e4, Jx, Ju]
    refine gK _ _ (gn2 _ _ (Ka_ (gs := [none, none]) fun K1 gK => ?_))
    simp (disch := omega) [hF]
    refine gK _ _ ?_
    refine gk1 (i + 1) _ _ (by omega) ⟨y, ts ++ [w], by simp [Fs, hF], by omega, Low.keep low4 hku (by omega), by simpa using m4, by (rw [List.map_append, hts, JdD k hlt, hB, List.map_cons, hw]; rfl)⟩
  ·
   refine Kf_ (by simp (disch := omega) [hlt]) ?_
   exact Kx_ (gx1 _ _ ⟨out, ts, by simp [Fs, hF, hlt], hk, hm, by (rw [hts, List.take_of_length_le (by omega)])⟩)
 ·as_aux_lemma =>
  clear hF
  rintro fr st' ⟨out, ts, hF, hk, hm, hts⟩
  simp only [Fs] at hF
  refine Ks_ (Ka_ (gs := [none, none]) fun K1 gK => ?_)
  simp (disch := omega) [hF]
  refine gK _ _ (Kq_ (gr _ _ ?_))
  simp [JW, Tryz.f16, hF]
  refine hR _ _ ?_
  have htl : ts.length = kids.length := by
   have := congrArg List.length hts
   rwa [List.length_map, JaI] at this
  have htot := Jde k kids 0 fun c hc => JdY (hfit c hc)
  refine ⟨⟨ts, ⟨hm.vw, by omega, fun s hs => ?_⟩, hts, hm.low kq.ctr⟩, kq.trans hk⟩
  have h1 : s.toList ∈ Jab k 0 kids := by rw [← hts]; exact List.mem_map.2 ⟨s, hs, rfl⟩
  have h2 := Jg6 h1
  rw [S.len] at h2
  omega
end Go.Vm
namespace Go.Vm
open Go Go.Proofs Go.Sy
set_option maxRecDepth 100000
attribute [local simp] OkP Jbg OkS Q0 OkG Ql QG OkD Qf J8 JT Jj Jo vop Js Jy ev evs toV Jn Fr.dsTo Fr.glTo Fr.toNone Jk Jl Jm J6 Qe Jc Jz Jw V.undef JU JO Qn Qo Qt Qp Qu Qv JN Qw Qx Qy J7 Qz Ji Jt JG Jq JI Jp JX J2 Jv JM JP JS JK
theorem Jcw {st : St} {id : Nat} {l : List (V × V × Nat)} {n k : Nat} (h : Mp st id l n) {i : Nat} {v : V} (hf : JeG (.int .u8) (.int .u8 (k : Int)) l 0 = some (some (i, v))) : Jdb Tryz.prog st 77 (.mapp id) (.int .u8 (k : Int)) false = some v := by
 have hs : JcS (.int .u8) (.int .u8 (k : Int)) (.int .u8 (k : Int)) = some true := by simp [JcS]
 simp only [Jdb, Tryz.underlying77, Tryz.underlying5, h.b, hs, hf]
 rfl
def Jo7 [Memo] (gl : Gl) (st st2 : St) (m : V) (k : Nat) (cs : List V) (x : V) (r : List UInt8) : Prop :=
 ∃ f caps, vsz (.fn f [] caps) < 1000000000 ∧ (∀ st', Keep st st' → Jdb Tryz.prog st' 77 m (.int .u8 (k : Int)) false = some (.fn f [] caps)) ∧
  ∃ v s3, JaA Tryz.prog (ihCall (W Tryz.prog)) gl f (.agg cs :: x :: caps) st2 = .val v s3 ∧ (∃ z : S, v = .str z ∧ z.toList = r) ∧ Keep st2 s3
variable [Memo] [NY] [NO]
theorem Jl2 (gl : Gl) {aL : List V} (hh : Hits gl aL) (st st2 : St) (kk : Keep st st2) (m : V) (hm : Ji5 st m) (k : Nat) (a : Int) (nm : S) (wv : V) (ws : List Ww) (kv : V) (hw : Row Ww.cells wv ws) (hok : ∀ w ∈ ws, w.ok) (hko : Ju kv = true) (hn : nm.n ≤ 300) (hl : ws.length ≤ 300) (hf : ∀ w ∈ ws, wFit w.l) (hz0 : (J1 [32] ((ws.map Ww.l).map wTxt)).length ≤ 500000) (hwz : vsz wv < 10000000) (x : V) (ts : List S) (hx : Tx st2 x ts) (hB : JcJ k ts.length nm ws = true) :
  Jo7 gl st st2 m k [.int .u8 (k : Int), .int .i64 a, .str nm, wv, kv] x (JaL k nm (ws.map Ww.l) (ts.map S.toList)) := by
 obtain ⟨id, b3, b4, b5, b7, b8, rfl, mp, h3, h4, h5, h7, h8⟩ := hm
 have ho := Jge (k := k) (a := a) (nm := nm) hw.one hko
 have hlen : (ts.map S.toList).length = ts.length := List.length_map ..
 rcases JeF hB with ⟨rfl, q⟩ | ⟨rfl, q⟩ | ⟨rfl, q⟩ | ⟨rfl, q⟩ | ⟨rfl, q⟩ | ⟨rfl, q, q2⟩ | ⟨rfl, q⟩ | ⟨rfl, q⟩ | ⟨rfl, q, q2⟩
 ·exact ⟨59, [], by simp [vsz, Jbb], fun st' k' => Jcw (mp.keep k') rfl, Says.use (JiU gl hh st2 1 a nm wv ws kv hw hok hko hn hl hf q x _) (by kernel_rfl)⟩
 ·exact ⟨62, [], by simp [vsz, Jbb], fun st' k' => Jcw (mp.keep k') rfl, Says.use (Jnr gl st2 _ ho x ts hx q) (by kernel_rfl)⟩
 ·exact ⟨56, [.ptr b3 0], by simp [vsz, Jbb], fun st' k' => Jcw (mp.keep k') rfl, Says.use ((Jfw gl st2 _ ho x ts hx b3 _ (h3.keep kk) (by rw [Jb]; decide) (by rw [Jb]; decide)).mono fun v st' h => by rw [S.toList_ofList] at h; exact h) (by kernel_rfl)⟩
 ·exact ⟨56, [.ptr b4 0], by simp [vsz, Jbb], fun st' k' => Jcw (mp.keep k') rfl, Says.use ((Jfw gl st2 _ ho x ts hx b4 _ (h4.keep kk) (by rw [Jb]; decide) (by rw [Jb]; decide)).mono fun v st' h => by rw [S.toList_ofList] at h; exact h) (by kernel_rfl)⟩
 ·exact ⟨56, [.ptr b5 0], by simp [vsz, Jbb], fun st' k' => Jcw (mp.keep k') rfl, Says.use ((Jfw gl st2 _ ho x ts hx b5 _ (h5.keep kk) (by rw [Jb]; decide) (by rw [Jb]; decide)).mono fun v st' h => by rw [S.toList_ofList] at h; exact h) (by kernel_rfl)⟩
 ·exact ⟨63, [], by simp [vsz, Jbb], fun st' k' => Jcw (mp.keep k') rfl, Says.use ((Jor gl st2 _ ho x ts hx q).mono fun v st' h => by rw [← hlen] at h; exact h) (by kernel_rfl)⟩
 ·exact ⟨58, [.ptr b7 0], by simp [vsz, Jbb], fun st' k' => Jcw (mp.keep k') rfl, Says.use ((JhV gl st2 _ ho x ts hx b7 _ (h7.keep kk) (by rw [Jb]; decide) q).mono fun v st' h => by rw [S.toList_ofList] at h; exact h) (by kernel_rfl)⟩
 ·exact ⟨58, [.ptr b8 0], by simp [vsz, Jbb], fun st' k' => Jcw (mp.keep k') rfl, Says.use ((JhV gl st2 _ ho x ts hx b8 _ (h8.keep kk) (by rw [Jb]; decide) q).mono fun v st' h => by rw [S.toList_ofList] at h; exact h) (by kernel_rfl)⟩
 ·exact ⟨64, [], by simp [vsz, Jbb], fun st' k' => Jcw (mp.keep k') rfl, Says.use (Jns gl hh st2 9 a nm wv ws kv hw hok hko hn hl hf hz0 q2 hwz x ts hx q) (by kernel_rfl)⟩
set_option maxHeartbeats 4000000 in
set_option maxRecDepth 100000 in
theorem JkX (gl : Gl) {aL : List V} (hh : Hits gl aL) (st : St) (k : Nat) (a : Int) (nm : S) (wv : V) (ws : List Ww) (kv : V) (kids : List Cw) (hw : Row Ww.cells wv ws) (hwok : ∀ w ∈ ws, w.ok) (hn : nm.n ≤ 300) (hwl : ws.length ≤ 300) (hwf : ∀ w ∈ ws, wFit w.l) (hz0 : (J1 [32] ((ws.map Ww.l).map wTxt)).length ≤ 500000) (hwz : vsz wv < 10000000) (hkz : vsz kv < 10000000) (hkv : Row Cw.cells kv kids) (hok : ∀ c ∈ kids, c.ok) (hfit : ∀ c ∈ kids, Fit c) (hl : kids.length ≤ 300) (hsz : JbQ kids ≤ 450) (ih : ∀ c ∈ kids, JdB gl 17 c) (hB : JcJ k kids.length nm ws = true) :
  Says Tryz.prog gl 17 [.agg [.int .u8 (k : Int), .int .i64 a, .str nm, wv, kv]] st (fun v st' => (∃ z : S, v = .str z ∧ z.toList = JaL k nm (ws.map Ww.l) (Jab k 0 kids)) ∧ Keep st st') := by
 refine Qb (NY.no _ rfl rfl rfl _ _) Tryz.func17 rfl (by kernel_rfl) fun R hR K gr gn => ?_
 generalize hfr : JC gl [.agg [.int .u8 (k : Int), .int .i64 a, .str nm, wv, kv]] = fr
 have hF : Fs gl [(0, .agg [.int .u8 (k : Int), .int .i64 a, .str nm, wv, kv])] fr := by subst hfr; simp [Fs]
 simp only [Fs] at hF
 clear hfr
 have ho := Jge (k := k) (a := a) (nm := nm) hw.one hkv.one
 have kq := JL st [.int .u8 (k : Int), .int .i64 a, .str nm, wv, kv] 25
 have hb := JZ st [.int .u8 (k : Int), .int .i64 a, .str nm, wv, kv] 25
 have hC := CB.new (st := st) (k := k) (a := a) (nm := nm) (wv := wv) (kv := kv)
 generalize QM st [.int .u8 (k : Int), .int .i64 a, .str nm, wv, kv] 25 = q0 at kq hb hC
 obtain ⟨qt, hqt, kt, _⟩ := Jb0 q0 9
 obtain ⟨m, s1, hc1, hm, k1⟩ := Says.use (Jmd gl qt)
 obtain ⟨x, s2, hc2, ⟨ts, hx, hts, _⟩, k2⟩ := Says.use (JhW gl s1 k a nm wv kv kids hw.one hkv hok hfit hl hsz ih)
 have htl : ts.length = kids.length := by
  have := congrArg List.length hts
  rwa [List.length_map, JaI] at this
 obtain ⟨f, caps, hfz, hlk, v, s3, hc3, ⟨z, rfl, hz⟩, k3⟩ := Jl2 gl hh s1 s2 k2 m hm k a nm wv ws kv hw hwok hkv.one hn hwl hwf hz0 hwz x ts hx (by rw [htl]; exact hB)
 have lk1 := hlk s1 (.refl _)
 have lk2 := hlk s2 k2
 have c0 := hC.ld.l
 have c1 := (hC.keep kt).ld.l
 have c2 := (hC.keep (kt.trans k1)).ld.l
 have c3 := (hC.keep (kt.trans (k1.trans k2))).ld.l
 have d0 := hC.ld.l0
 have d1 := (hC.keep kt).ld.l0
 have d2 := (hC.keep (kt.trans k1)).ld.l0
 have d3 := (hC.keep (kt.trans (k1.trans k2))).ld.l0
 have vqf := Jag _ hfz
 have vqa : veq 1000000000 (.agg [.int .u8 (k : Int), .int .i64 a, .str nm, wv, kv]) (.agg [.int .u8 (k : Int), .int .i64 a, .str nm, wv, kv]) = true := Jag _ (by simp [vsz, Jbb]; omega)
 have hb7 : ([7, 0, 0, 33, 127, 255] : List Nat)[0]?.getD 0 = 7 := rfl
 refine Ks_ (Ka_ (gs := [none, none]) fun K1 gK => ?_)
 simp (disch := omega) [hF, hb, ho]
 refine gK _ _ (Ks_ (Kj_ (b := [0, 0, 2, 7, 0, 0, 33, 127, 255]) (rs := [(0, 1), (5, 2), (1, 4), (7, 2)]) fun K1 gK => ?_))
 simp (disch := omega) [hF, hb7, vqf, vqa, cg0, hqt, hc1, hc2, hc3, lk1, lk2, c1, c2, c3, d1, d2, d3]
 refine gK _ _ (Kq_ (gr _ _ ?_))
 simp [JW, Tryz.f17, hF]
 refine hR _ _ ?_
 exact ⟨⟨z, rfl, by rw [hz, hts]⟩, kq.trans (kt.trans (k1.trans (k2.trans k3)))⟩
end Go.Vm
namespace Go.Vm
open Go Go.Proofs Go.Sy
set_option maxRecDepth 100000
attribute [local simp] OkG Ql QG OkD Qf J8 JT Jj Jo vop Js Jy ev evs toV Jn Fr.dsTo Fr.glTo Fr.toNone Jk Jl Jm J6 Qe Jc Jz Jw V.undef JU JO Qn Qo Qt Qp Qu Qv JN Qw Qx Qy J7 Qz Ji Jt JG Jq JI Jp JX J2 Jv JM JP JS JK
theorem Jfx {ws : List Ww} (h : (ws.map fun w => wsz w.l).sum ≤ 450) : (J1 [32] ((ws.map Ww.l).map wTxt)).length ≤ 500000 := by
 have h1 := Jcm [32] ((ws.map Ww.l).map wTxt)
 have h2 := Jpa ws
 simp only [List.length_map, List.length_cons, List.length_nil] at h1
 omega
variable [Memo] [NY] [NO]
theorem JhX (gl : Gl) {aL : List V} (hh : Hits gl aL) (c : Cw) (hok : c.ok) : c.small → Fit c → JbU c = true → szC c ≤ 450 → JdB gl 17 c := by
 induction hok with
 | mk k a nm wv ws kv kids hk hw hws hkv hks ih =>
 intro hsm hfit hmay hsz
 cases hsm with
 | mk _ _ _ _ _ _ _ _ _ _ hwz hkz hws' hks' =>
 cases hfit with
 | mk _ _ _ _ _ _ _ hn hwl hkl hwf hkf =>
 simp only [JbU, Bool.and_eq_true] at hmay
 obtain ⟨hm1, hB⟩ := hmay
 rw [Jbk, List.all_eq_true] at hm1
 simp only [szC] at hsz
 intro st
 exact JkX gl hh st k a nm wv ws kv kids hw hws hn hwl hwf (Jfx (by omega)) hwz hkz hkv hks hkf hkl (by omega) (fun c hc => ih c hc (hks' c hc) (hkf c hc) (hm1 c hc) (by have := Jbu hc; omega)) hB
set_option maxHeartbeats 8000000 in
set_option maxRecDepth 100000 in
omit [NO] in
theorem Jgx (gl : Gl) (st : St) (k : Nat) (a : Int) (nm : S) (wv kv : V) (kids : List Cw) (i : Nat) (hkv : Row Cw.cells kv kids) (how : Ju wv = true) (hi : i < kids.length) (hln : (txC kids[i]).length ≤ 450000) (ih : JdB gl 20 kids[i]) :
  Says Tryz.prog gl 19 [.agg [.int .u8 (k : Int), .int .i64 a, .str nm, wv, kv], .int .i64 (i : Int)] st (fun v st' => (∃ z : S, v = .str z ∧ z.toList = brT (brB k kids[i].kind i) (txC kids[i])) ∧ Keep st st') := by
 refine Qb (NY.no _ rfl rfl rfl _ _) Tryz.func19 rfl (by kernel_rfl) fun R hR K gr gn => ?_
 generalize hfr : JC gl [.agg [.int .u8 (k : Int), .int .i64 a, .str nm, wv, kv], .int .i64 (i : Int)] = fr
 have hF : Fs gl [(0, .agg [.int .u8 (k : Int), .int .i64 a, .str nm, wv, kv]), (1, .int .i64 (i : Int))] fr := by subst hfr; simp [Fs]
 simp only [Fs] at hF
 clear hfr
 have ho := Jge (k := k) (a := a) (nm := nm) how hkv.one
 have kq := JL st [.int .u8 (k : Int), .int .i64 a, .str nm, wv, kv] 25
 have hb := JZ st [.int .u8 (k : Int), .int .i64 a, .str nm, wv, kv] 25
 have hC := CB.new (st := st) (k := k) (a := a) (nm := nm) (wv := wv) (kv := kv)
 generalize QM st [.int .u8 (k : Int), .int .i64 a, .str nm, wv, kv] 25 = q0 at kq hb hC
 have l4 := hC.ld.l4
 have l0 := hC.ld.l0
 obtain ⟨rr, hi1⟩ := hkv.get (fun c _ => c.len5) Tryz.underlying23 z25 hi
 have hi1 := hi1 .i64
 have f0 := Jmc kids[i] rr
 have lk := Jkb kids[i] rr
 have lc := JdE kids[i] rr
 have hih := ih q0
 generalize kids[i].cells ++ rr = ad at hi1 f0 lk lc
 generalize kids[i].kind = j at lk hR
 generalize kids[i].cells = cs at lc hih
 generalize txC kids[i] = T at hln hR hih
 obtain ⟨v, s1, hc, ⟨z, rfl, hz⟩, k1⟩ := Says.use hih (by kernel_rfl)
 have hzn : z.n ≤ 450000 := by rw [← S.len, hz]; exact hln
 have e2 : ∀ kk, Je Tryz.prog kk .eql 5 (.int .u8 (j : Int)) (.int .u8 2) = some (.bool (decide (j = 2))) := fun kk => JN
 have e3 : ∀ kk, Je Tryz.prog kk .eql 5 (.int .u8 (j : Int)) (.int .u8 3) = some (.bool (decide (j = 3))) := fun kk => JN
 have e4 : ∀ kk, Je Tryz.prog kk .eql 5 (.int .u8 (j : Int)) (.int .u8 4) = some (.bool (decide (j = 4))) := fun kk => JN
 have e5 : ∀ kk, Je Tryz.prog kk .eql 5 (.int .u8 (j : Int)) (.int .u8 5) = some (.bool (decide (j = 5))) := fun kk => JN
 have k2 : ∀ kk, Je Tryz.prog kk .eql 5 (.int .u8 (k : Int)) (.int .u8 2) = some (.bool (decide (k = 2))) := fun kk => JN
 have k3 : ∀ kk, Je Tryz.prog kk .eql 5 (.int .u8 (k : Int)) (.int .u8 3) = some (.bool (decide (k = 3))) := fun kk => JN
 have k4 : ∀ kk, Je Tryz.prog kk .eql 5 (.int .u8 (k : Int)) (.int .u8 4) = some (.bool (decide (k = 4))) := fun kk => JN
 have k5 : ∀ kk, Je Tryz.prog kk .eql 5 (.int .u8 (k : Int)) (.int .u8 5) = some (.bool (decide (k = 5))) := fun kk => JN
 have i1 : ∀ kk, Je Tryz.prog kk .eql 3 (.int .i64 (i : Int)) (.int .i64 1) = some (.bool (decide (i = 1))) := fun kk => JN
 obtain ⟨B, hB⟩ : ∃ b, brB k j i = b := ⟨_, rfl⟩
 rw [hB] at hR
 simp only [brB] at hB
 generalize decide (j = 2) = j2 at e2 hB
 generalize decide (j = 3) = j3 at e3 hB
 generalize decide (j = 4) = j4 at e4 hB
 generalize decide (j = 5) = j5 at e5 hB
 generalize decide (k = 2) = d2 at k2 hB
 generalize decide (k = 3) = d3 at k3 hB
 generalize decide (k = 4) = d4 at k4 hB
 generalize decide (k = 5) = d5 at k5 hB
 generalize decide (i = 1) = i1b at i1 hB
 refine Ks_ (Ka_ (gs := [none, none]) fun K1 gK => ?_)
 simp (disch := omega) [hF, hb, ho]
 refine gK _ _ (Ks_ (Ka_ (gs := [none, none, none, none, none, none, none]) fun K1 gK => ?_))
 simp (disch := omega) [hF, cg4, l4, hi1, f0, lk]
 refine gK _ _ (Ks_ (Ka_ (gs := [none]) fun K1 gK => ?_))
 simp (disch := omega) []
 refine gK _ _ (Ks_ (Ks_ (Ka_ (gs := [none, none]) fun K1 gK => ?_)))
 simp (disch := omega) [cg0, l0]
 refine gK _ _ ?_
 refine Km_ (fun fr st' => Fs gl [(1, .int .i64 (i : Int)), (2, .ptr st.ctr 0), (6, .bool B)] fr ∧ q0 = st') ?_ ?_
 ·as_aux_lemma =>
  intro K1 gm1 go1
  refine Kb_ fun K2 gn2 gx2 go2 => ?_
  refine Ks_ (Ka_ (gs := [none, none]) fun K1 gK => ?_)
  simp (disch := omega) [k2]
  refine gK _ _ ?_
  cases d2 with
  | true =>
   refine Kt_ (by simp (disch := omega) []) ?_
   cases j2 with
   | true =>
    refine Ka_ (gs := [none, none, none, some (some 20, false), some (some 20, false), none, none, some (some 24, false), some (some 24, false), none, none, some (some 28, false), some (some 28, false), none, none]) fun K1 gK => ?_
    simp (disch := omega) [e2]
    refine gK _ _ (gn2 _ _ ?_)
    exact gm1 _ _ ⟨by simp [Fs, hF, ← hB],  rfl⟩
   | false =>
    cases j3 with
    | true =>
     refine Ka_ (gs := [none, none, none, some (some 20, false), some (some 20, false), none, none, some (some 24, false), some (some 24, false), none, none, some (some 28, false), some (some 28, false), none, none]) fun K1 gK => ?_
     simp (disch := omega) [e2, e3]
     refine gK _ _ (gn2 _ _ ?_)
     exact gm1 _ _ ⟨by simp [Fs, hF, ← hB],  rfl⟩
    | false =>
     cases j4 with
     | true =>
      refine Ka_ (gs := [none, none, none, some (some 20, false), some (some 20, false), none, none, some (some 24, false), some (some 24, false), none, none, some (some 28, false), some (some 28, false), none, none]) fun K1 gK => ?_
      simp (disch := omega) [e2, e3, e4]
      refine gK _ _ (gn2 _ _ ?_)
      exact gm1 _ _ ⟨by simp [Fs, hF, ← hB],  rfl⟩
     | false =>
      refine Ka_ (gs := [none, none, none, some (some 20, false), some (some 20, false), none, none, some (some 24, false), some (some 24, false), none, none, some (some 28, false), some (some 28, false), none, none]) fun K1 gK => ?_
      simp (disch := omega) [e2, e3, e4, e5]
      refine gK _ _ (gn2 _ _ ?_)
      exact gm1 _ _ ⟨by simp [Fs, hF, ← hB],  rfl⟩
  | false =>
   refine Kf_ (by simp (disch := omega) []) (Ks_ (Ks_ (Ka_ (gs := [none, none]) fun K1 gK => ?_)))
   simp (disch := omega) [k3]
   refine gK _ _ ?_
   refine Km_ (fun fr st' => Fs gl [(1, .int .i64 (i : Int)), (2, .ptr st.ctr 0), (5, .int .u8 (j : Int)), (6, .bool false), (15, .int .u8 (k : Int)), (32, .bool (d3 || d4))] fr ∧ q0 = st') ?_ ?_
   ·as_aux_lemma =>
    intro K3 gm3 go3
    cases d3 with
    | true =>
     refine Kt_ (by simp (disch := omega) []) (Kk_ ?_)
     exact gm3 _ _ ⟨by simp [Fs, hF], rfl⟩
    | false =>
     refine Kf_ (by simp (disch := omega) []) (Ka_ (gs := [none, none]) fun K1 gK => ?_)
     simp (disch := omega) [k4]
     refine gK _ _ ?_
     exact gm3 _ _ ⟨by simp [Fs, hF],  rfl⟩
   ·as_aux_lemma =>
    clear hF
    rintro fr st' ⟨hF, rfl⟩
    simp only [Fs] at hF
    rw [cond_false] at hB
    generalize (d3 || d4) = dc at hF hB
    cases dc with
    | true =>
     refine Kt_ (by simp (disch := omega) [hF]) ?_
     cases j5 with
     | true =>
      refine Ka_ (gs := [none, none, none, some (some 37, false), some (some 37, false), some (some 37, false), some (some 40, true), some (some 40, true), some (some 40, true), some (some 43, false), some (some 43, false), some (some 40, true), some (some 37, false), none, none]) fun K1 gK => ?_
      simp (disch := omega) [hF, e5]
      refine gK _ _ (gn2 _ _ ?_)
      exact gm1 _ _ ⟨by simp [Fs, hF, ← hB],  rfl⟩
     | false =>
      cases i1b with
      | true =>
       cases j3 with
       | true =>
        refine Ka_ (gs := [none, none, none, some (some 37, false), some (some 37, false), some (some 37, false), some (some 40, true), some (some 40, true), some (some 40, true), some (some 43, false), some (some 43, false), some (some 40, true), some (some 37, false), none, none]) fun K1 gK => ?_
        simp (disch := omega) [hF, e3, e5, i1]
        refine gK _ _ (gn2 _ _ ?_)
        exact gm1 _ _ ⟨by simp [Fs, hF, ← hB],  rfl⟩
       | false =>
        refine Ka_ (gs := [none, none, none, some (some 37, false), some (some 37, false), some (some 37, false), some (some 40, true), some (some 40, true), some (some 40, true), some (some 43, false), some (some 43, false), some (some 40, true), some (some 37, false), none, none]) fun K1 gK => ?_
        simp (disch := omega) [hF, e3, e4, e5, i1]
        refine gK _ _ (gn2 _ _ ?_)
        exact gm1 _ _ ⟨by simp [Fs, hF, ← hB],  rfl⟩
      | false =>
       refine Ka_ (gs := [none, none, none, some (some 37, false), some (some 37, false), some (some 37, false), some (some 40, true), some (some 40, true), some (some 40, true), some (some 43, false), some (some 43, false), some (some 40, true), some (some 37, false), none, none]) fun K1 gK => ?_
       simp (disch := omega) [hF, e5, i1]
       refine gK _ _ (gn2 _ _ ?_)
       exact gm1 _ _ ⟨by simp [Fs, hF, ← hB],  rfl⟩
    | false =>
     refine Kf_ (by simp (disch := omega) [hF]) (Ks_ (Ka_ (gs := [none, none]) fun K1 gK => ?_))
     simp (disch := omega) [hF, k5]
     refine gK _ _ ?_
     cases d5 with
     | true =>
      refine Kt_ (by simp (disch := omega) []) (Ka_ (gs := [none, none, none]) fun K1 gK => ?_)
      simp (disch := omega) [hF, e5]
      refine gK _ _ (gn2 _ _ ?_)
      exact gm1 _ _ ⟨by simp [Fs, hF, ← hB],  rfl⟩
     | false =>
      refine Kf_ (by simp (disch := omega) []) (Kk_ (gn2 _ _ ?_))
      exact gm1 _ _ ⟨by simp [Fs, hF, ← hB],  rfl⟩
 ·as_aux_lemma =>
  clear hF
  rintro fr st' ⟨hF, rfl⟩
  simp only [Fs] at hF
  obtain ⟨z1, a1, t1, m1⟩ := QE (P := Tryz.prog) (T := 9) (S.ofList [123, 32]) z (by rw [Jb]; simp; omega)
  rw [Jb] at m1
  simp only [List.length_cons, List.length_nil] at m1
  obtain ⟨z2, a2, t2, m2⟩ := QE (P := Tryz.prog) (T := 9) z1 (S.ofList [59, 32, 125]) (by rw [Jb]; simp; omega)
  refine Ks_ (Ka_ (gs := [none, none, none, none, none, none, none]) fun K1 gK => ?_)
  simp (disch := omega) [hF, cg4, l4, hi1, lc, hc]
  refine gK _ _ (Ks_ (Ks_ (Ka_ (gs := [none]) fun K1 gK => ?_)))
  simp (disch := omega) [hF]
  refine gK _ _ ?_
  cases B with
  | true =>
   refine Kt_ (by simp (disch := omega) []) (Ks_ (Ka_ (gs := [none, none, none, none]) fun K1 gK => ?_))
   simp (disch := omega) [a1, a2]
   refine gK _ _ (Kq_ (gr _ _ ?_))
   simp [JW, Tryz.f19, hF]
   refine hR _ _ ?_
   exact ⟨⟨z2, rfl, by rw [t2, t1, hz, S.toList_ofList, S.toList_ofList]; simp [brT]⟩, kq.trans k1⟩
  | false =>
   refine Kf_ (by simp (disch := omega) []) (Kk_ (Ks_ (Ka_ (gs := [none, none]) fun K1 gK => ?_)))
   simp (disch := omega) []
   refine gK _ _ (Kq_ (gr _ _ ?_))
   simp [JW, Tryz.f19, hF]
   refine hR _ _ ?_
   exact ⟨⟨z, rfl, hz⟩, kq.trans k1⟩
end Go.Vm
