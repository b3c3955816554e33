/- A node's text: by the program. -/
import Derived.Test.YtphinjijaglokaaGreatDoorSzH
import Derived.Test.YtphinjijaglokaaGreatDoorSz4
namespace Go.Vm
open Go Go.Proofs Go.Pa
attribute [local simp] OkP QH OkS Qi OkG Qh Qp OkD JY Qr JI Jm Jq vop Js JB ev evs toV Jl Fr.dsTo Fr.glTo Fr.toNone Ji Jj Jk Qk QL Jd JD Jv V.undef JW JM J7 JX J3 J9 J8 Qa JH J4 J5 JZ JO Qb Jt Ju Jw Jz JE Jr JL JN JK Qq
theorem JcU {P : Program} {T : TypeId} (x y : S) (h : x.n + y.n < 1000000000000000) : ∃ z : S, (∀ kk, Jn P kk .add T (.str x) (.str y) = some (.str z)) ∧ z.toList = x.toList ++ y.toList ∧ z.n = x.n + y.n :=
 ⟨x.app y, fun _kk => Jgc h, S.toList_app x y, JcT x y⟩
def JaN (s : S) : List UInt8 := QW s.n ++ 58 :: s.toList
mutual
def shw : Nt → List UInt8
 | .mk kind text names kids => cond (decide (kind = 1)) (102 :: JaN text) (cond (decide (kind = 3)) (108 :: JaN text) (100 :: (QW names.length ++ 58 :: Jak kids names)))
def Jak : List Nt → List S → List UInt8
 | [], _ => []
 | t :: l, names => match names with
  | [] => []
  | s :: r => JaN s ++ (shw t ++ Jak l r)
end
theorem JfK : ∀ (l : List Nt) (ns : List S) (i : Nat), l.length = ns.length → Jak l ns = Jak (l.take i) ns ++ Jak (l.drop i) (ns.drop i)
 | [], ns, i, _ => by simp [Jak]
 | t :: l, [], i, h => by simp at h
 | t :: l, s :: r, 0, _ => by simp [Jak]
 | t :: l, s :: r, i + 1, h => by
  have := JfK l r i (by simpa using h)
  simp only [List.take_succ_cons, List.drop_succ_cons, Jak, this, List.append_assoc]
theorem JeB : ∀ (l : List Nt) (ns : List S) (i : Nat) (h : i < l.length) (h' : i < ns.length), Jak (l.take (i + 1)) ns = Jak (l.take i) ns ++ (JaN ns[i] ++ shw l[i])
 | [], ns, i, h, _ => by simp at h
 | t :: l, [], i, _, h => by simp at h
 | t :: l, s :: r, 0, _, _ => by simp [Jak]
 | t :: l, s :: r, i + 1, h, h' => by
  have := JeB l r i (by simpa using h) (by simpa using h')
  simp only [List.take_succ_cons, Jak, this, List.append_assoc, List.getElem_cons_succ]
theorem Jkm (l : List Nt) (ns : List S) (i : Nat) (h : l.length = ns.length) : (Jak (l.take i) ns).length ≤ (Jak l ns).length := by
 have := congrArg List.length (JfK l ns i h)
 rw [List.length_append] at this; omega
structure Wx (b pb wb : Nat) (st : St) (F : Nat → Prop) (l : List UInt8) : Prop where
 w : Wb b st F l
 p : st.box.get pb = some (.cells [.fn 20 [.ptr b 0] []] 43 true (some 0))
 plt : pb < st.ctr
 pf : ¬ F pb
 q : st.box.get wb = some (.cells [.fn 21 [] [.ptr pb 0, .ptr wb 0]] 44 true (some 0))
 qlt : wb < st.ctr
 qf : ¬ F wb
theorem Wx.keep {b pb wb : Nat} {st st' : St} {F : Nat → Prop} {l : List UInt8} (h : Wx b pb wb st F l) (k : Keep st st') : Wx b pb wb st' F l :=
 ⟨h.w.keep k, (k.box _ h.plt).trans h.p, Nat.lt_of_lt_of_le h.plt k.ctr, h.pf, (k.box _ h.qlt).trans h.q, Nat.lt_of_lt_of_le h.qlt k.ctr, h.qf⟩
theorem Wx.go {b pb wb : Nat} {st st' : St} {F F' : Nat → Prop} {l l' : List UInt8} (h : Wx b pb wb st F l) (k : Wgo F st F' st') (w : Wb b st' F' l') : Wx b pb wb st' F' l' :=
 ⟨w, (k.box h.plt h.pf).1.trans h.p, Nat.lt_of_lt_of_le h.plt k.o.ctr, (k.box h.plt h.pf).2, (k.box h.qlt h.qf).1.trans h.q, Nat.lt_of_lt_of_le h.qlt k.o.ctr, (k.box h.qlt h.qf).2⟩
theorem z43 : Qj Tryz.prog 43 = some 1 := by kernel_rfl
theorem a43 : Jag Tryz.prog 43 = some false := by kernel_rfl
theorem z44 : Qj Tryz.prog 44 = some 1 := by kernel_rfl
theorem a44 : Jag Tryz.prog 44 = some false := by kernel_rfl
theorem Wx.lp {b pb wb : Nat} {st : St} {F : Nat → Prop} {l : List UInt8} (h : Wx b pb wb st F l) : Qe Tryz.prog st 43 (.ptr pb 0) = some (.fn 20 [.ptr b 0] []) := Qd (off := 0) a43 z43 h.p rfl
theorem Wx.lq {b pb wb : Nat} {st : St} {F : Nat → Prop} {l : List UInt8} (h : Wx b pb wb st F l) : Qe Tryz.prog st 44 (.ptr wb 0) = some (.fn 21 [] [.ptr pb 0, .ptr wb 0]) := Qd (off := 0) a44 z44 h.q rfl
theorem Jcb (st : St) (n : Nat) : ∃ q : St, ({ ctr := st.ctr + n, box := st.box } : St) = q ∧ Keep st q ∧ st.ctr + n = q.ctr := ⟨_, rfl, Jc3 st n, rfl⟩
theorem JbY {kind : Nat} {text : S} {names : List S} {kids : List Nt} (h : QA (.mk kind text names kids) = true) (hk : kind = 1 ∨ kind = 3) : names = [] ∧ kids = [] ∧ Jdz text = true ∧ (kind = 3 → text.n ≠ 0) := by
 unfold QA at h
 have : (decide (kind = 1) || decide (kind = 3)) = true := by rcases hk with rfl | rfl <;> rfl
 rw [this, cond_true] at h
 simp only [Bool.and_eq_true, decide_eq_true_eq, Bool.or_eq_true, Bool.not_eq_true', decide_eq_false_iff_not] at h
 obtain ⟨h1, h2, h3⟩ := h
 exact ⟨List.eq_nil_of_length_eq_zero (by omega), List.eq_nil_of_length_eq_zero (by omega), h2, fun h => by rcases h3 with h3 | h3; omega; exact h3⟩
theorem Jbu {kind : Nat} {text : S} {names : List S} {kids : List Nt} (h : QA (.mk kind text names kids) = true) (h1 : kind ≠ 1) (h3 : kind ≠ 3) : kind = 2 ∧ text.n = 0 ∧ names.length = kids.length ∧ Jaz names = true ∧ ∀ t ∈ kids, QA t = true := by
 unfold QA at h
 rw [decide_eq_false h1, decide_eq_false h3] at h
 by_cases h2 : kind = 2
 ·rw [decide_eq_true h2] at h
  simp only [Bool.or_self, cond_false, cond_true, Bool.and_eq_true, decide_eq_true_eq] at h
  exact ⟨h2, h.1, h.2.1, h.2.2.1, JcI.1 h.2.2.2⟩
 ·rw [decide_eq_false h2] at h; simp at h
variable [Memo] [NY] [NZ]
set_option maxRecDepth 100000 in
theorem JlJ (gl : Gl) (hg : gl.get 1 = some powV) (st : St) (s : S) (hs : s.n < 1000000) :
  Says Tryz.prog gl 22 [.str s] st (fun v st' => (∃ t : S, v = .str t ∧ t.toList = JaN s ∧ t.n ≤ s.n + 7) ∧ Keep st st') := by
 refine JS (NY.no _ rfl rfl rfl _ _) Tryz.func22 rfl (by kernel_rfl) fun R hR K gr gn => ?_
 generalize hfr : Jx gl [.str s] = fr
 have hF : Fs gl [(0, .str s)] fr := by subst hfr; simp [Fs]
 simp only [Fs] at hF
 clear hfr
 obtain ⟨v, s1, hc, ⟨t, rfl, ht⟩, hk⟩ := Says.use (Jev gl hg st s.n hs)
 have htn : t.n ≤ 6 := by rw [← S.len, ht]; exact JaP hs
 have hcn : (S.ofList [58]).n = 1 := Qu _
 obtain ⟨z1, a1, b1, n1⟩ := JcU (P := Tryz.prog) (T := 9) t (S.ofList [58]) (by omega)
 obtain ⟨z2, a2, b2, n2⟩ := JcU (P := Tryz.prog) (T := 9) z1 s (by omega)
 refine Ks_ (Ka_ (gs := [none]) fun K1 gK => ?_)
 simp (disch := omega) []
 refine gK _ _ (Ks_ (Ka_ (gs := [none, none, none, none, none, none, none]) fun K1 gK => ?_))
 simp (disch := omega) [hF, hc, Jb, a1, a2]
 refine gK _ _ (Kq_ (gr _ _ ?_))
 simp [JC, Tryz.f22, hF]
 refine hR _ _ ?_
 exact ⟨⟨z2, rfl, by rw [b2, b1, ht, S.toList_ofList, JaN]; simp, by omega⟩, hk⟩
def WrW [Memo] (gl : Gl) (b pb wb : Nat) (s0 : St) (t : Nt) : Prop := ∀ (st : St) (F : Nat → Prop) (l : List UInt8) (cs : List V), Keep s0 st → NR s0 cs t → Wx b pb wb st F l → l.length + (shw t).length ≤ 1000000000 → Says Tryz.prog gl 21 [.agg cs, .ptr pb 0, .ptr wb 0] st fun _v st' => ∃ F', Wx b pb wb st' F' (l ++ shw t) ∧ Wgo F st F' st'
omit [Memo] [NY] [NZ] in
theorem QX {b : Nat} : veq 1000000000 (.fn 20 [.ptr b 0] []) (.fn 20 [.ptr b 0] []) = true := Qz _ (Nat.le_of_ble_eq_true rfl)
omit [Memo] [NY] [NZ] in
theorem Jal {pb wb : Nat} : veq 1000000000 (.fn 21 [] [.ptr pb 0, .ptr wb 0]) (.fn 21 [] [.ptr pb 0, .ptr wb 0]) = true := Qz _ (Nat.le_of_ble_eq_true rfl)
set_option maxHeartbeats 8000000 in
set_option maxRecDepth 100000 in
theorem Jnu (gl : Gl) (hg : gl.get 1 = some powV) (b pb wb : Nat) (s0 : St) (hsb : s0.ctr ≤ b) (st : St) (F : Nat → Prop) (l : List UInt8) (hk0 : Keep s0 st) (kind : Nat) (text : S) (nv kv : V) (names : List S) (kids : List Nt) (css : List (List V)) (hn : Vw s0 nv names) (hkv : NRs s0 kv css kids) (hz : vsz nv ≤ 200000000 ∧ vsz kv ≤ 200000000) (htl : text.n ≤ 100000) (hnl : names.length ≤ 900000) (hns : ∀ s ∈ names, s.n ≤ 100000) (hwell : QA (.mk kind text names kids) = true) (hx : Wx b pb wb st F l) (hlen : l.length + (shw (.mk kind text names kids)).length ≤ 1000000000) (ih : ∀ t ∈ kids, WrW gl b pb wb s0 t) :
  Says Tryz.prog gl 21 [.agg [.int .u8 (kind : Int), .str text, nv, kv], .ptr pb 0, .ptr wb 0] st (fun _v st' => ∃ F', Wx b pb wb st' F' (l ++ shw (.mk kind text names kids)) ∧ Wgo F st F' st') := by
 refine JS (NY.no _ rfl rfl rfl _ _) Tryz.func21 rfl (by kernel_rfl) fun R hR K gr gn => ?_
 generalize hfr : Jx gl [.agg [.int .u8 (kind : Int), .str text, nv, kv], .ptr pb 0, .ptr wb 0] = fr
 have hF : Fs gl [(0, .agg [.int .u8 (kind : Int), .str text, nv, kv]), (1, .ptr pb 0), (2, .ptr wb 0)] fr := by subst hfr; simp [Fs]
 simp only [Fs] at hF
 clear hfr
 have ho : ([.int .u8 (kind : Int), .str text, nv, kv] : List V).all Qn = true := by simp only [List.all_cons, hn.one, hkv.s.one]; rfl
 generalize hcs : ([.int .u8 (kind : Int), .str text, nv, kv] : List V) = cs at ho hF
 have kq := JJ st cs 25
 have hb := Qc st cs 25
 have hT := NB.new (st := st) (cs := cs)
 generalize Q4 st cs 25 = q at kq hb hT
 rw [← hcs] at hT
 have hxq := hx.keep kq
 have hFq : ¬ F st.ctr := fun h => by have := (hx.w.lt h).2; omega
 obtain ⟨l0, l1, l2, l3, _⟩ := hT.ld
 obtain ⟨q1, hq1, kq1, cq1⟩ := Jcb q 6
 have l1' := (hT.keep kq1).ld.l1
 obtain ⟨v, s1, hc1, ⟨z1, rfl, hz1, hzn1⟩, hk1⟩ := Says.use (JlJ gl hg q1 text (by omega))
 have hx1 := hxq.keep (kq1.trans hk1)
 have p0 := (hxq.keep kq1).lp
 have p1 := hx1.lp
 have hvn : veq 1000000000 nv nv = true := Qz _ (by omega)
 have hvk : veq 1000000000 kv kv = true := Qz _ (by omega)
 obtain ⟨B1, hB1⟩ : ∃ b, decide (kind = 1) = b := ⟨_, rfl⟩
 obtain ⟨B3, hB3⟩ : ∃ b, decide (kind = 3) = b := ⟨_, rfl⟩
 have e1 : ∀ kk, Jn Tryz.prog kk .eql 5 (.int .u8 (kind : Int)) (.int .u8 1) = some (.bool B1) := fun kk => by rw [← hB1]; exact JH
 have e3 : ∀ kk, Jn Tryz.prog kk .eql 5 (.int .u8 (kind : Int)) (.int .u8 3) = some (.bool B3) := fun kk => by rw [← hB3]; exact JH
 refine Ks_ (Ka_ (gs := [none]) fun K1 gK => ?_)
 simp (disch := omega) [hF, Ja, ho, hb]
 refine gK _ _ (Ks_ (Ka_ (gs := [none, none]) fun K1 gK => ?_))
 simp (disch := omega) [gN0, l0]
 refine gK _ _ ?_
 refine Kb_ fun K1 gn1 gx1 go1 => ?_
 refine Ks_ (Ka_ (gs := [none, none]) fun K1 gK => ?_)
 simp (disch := omega) [e1]
 refine gK _ _ ?_
 cases B1 with
 | true =>
  refine Kt_ (by simp (disch := omega) []) ?_
  have hsw : shw (.mk kind text names kids) = 102 :: JaN text := by simp only [shw, hB1, cond_true]
  have hfn : (S.ofList [102]).n = 1 := Qu _
  obtain ⟨z2, a2, b2, n2⟩ := JcU (P := Tryz.prog) (T := 9) (S.ofList [102]) z1 (by omega)
  have hb2 : z2.toList = shw (.mk kind text names kids) := by rw [b2, hz1, S.toList_ofList, hsw]; rfl
  have hbn : z2.n = (shw (.mk kind text names kids)).length := by rw [← hb2, S.len]
  obtain ⟨v, s2, hc2, ⟨F2, hw2, hg2⟩⟩ := Says.use (JhM gl s1 b F l z2 hx1.w (by omega))
  rw [hb2] at hw2
  refine DoK.drawP (b := [0, 0, 2, 6, 14, 31]) (rs := [(1, 3), (0, 1), (4, 2)]) (gs := [none, none, none, none, none, none]) (by kernel_rfl) (by kernel_rfl) (by kernel_rfl) (by kernel_rfl) (by kernel_rfl) fun K1 gK => ?_
  simp only [Jac, Jb2, List.drop_zero, List.drop_succ_cons, List.take_succ_cons, List.take_zero, List.cons_append, List.nil_append]
  simp (disch := omega) [hF, gN1, QX, hq1, l1', hc1, p0, p1, a2, hc2]
  refine gK _ _ (gn1 _ _ (gn _ _ ?_))
  simp [JC, Tryz.f21, hF]
  refine hR _ _ ?_
  exact ⟨F2, hx1.go hg2 hw2, (Wgo.keep (kq.trans (kq1.trans hk1))).trans hg2⟩
 | false =>
  refine Kf_ (by simp (disch := omega) []) (Ks_ (Ka_ (gs := [none, none]) fun K1 gK => ?_))
  simp (disch := omega) [e3]
  refine gK _ _ ?_
  cases B3 with
  | true =>
   refine Kt_ (by simp (disch := omega) []) ?_
   have hsw : shw (.mk kind text names kids) = 108 :: JaN text := by simp only [shw, hB1, hB3, cond_true, cond_false]
   have hfn : (S.ofList [108]).n = 1 := Qu _
   obtain ⟨z2, a2, b2, n2⟩ := JcU (P := Tryz.prog) (T := 9) (S.ofList [108]) z1 (by omega)
   have hb2 : z2.toList = shw (.mk kind text names kids) := by rw [b2, hz1, S.toList_ofList, hsw]; rfl
   have hbn : z2.n = (shw (.mk kind text names kids)).length := by rw [← hb2, S.len]
   obtain ⟨v, s2, hc2, ⟨F2, hw2, hg2⟩⟩ := Says.use (JhM gl s1 b F l z2 hx1.w (by omega))
   rw [hb2] at hw2
   refine DoK.drawP (b := [0, 0, 2, 6, 14, 31]) (rs := [(1, 3), (0, 1), (4, 2)]) (gs := [none, none, none, none, none, none]) (by kernel_rfl) (by kernel_rfl) (by kernel_rfl) (by kernel_rfl) (by kernel_rfl) fun K1 gK => ?_
   simp only [Jac, Jb2, List.drop_zero, List.drop_succ_cons, List.take_succ_cons, List.take_zero, List.cons_append, List.nil_append]
   simp (disch := omega) [hF, gN1, QX, hq1, l1', hc1, p0, p1, a2, hc2]
   refine gK _ _ (gn1 _ _ (gn _ _ ?_))
   simp [JC, Tryz.f21, hF]
   refine hR _ _ ?_
   exact ⟨F2, hx1.go hg2 hw2, (Wgo.keep (kq.trans (kq1.trans hk1))).trans hg2⟩
  | false =>
   refine Kf_ (by simp (disch := omega) []) ?_
   clear hz1 hzn1 p0 p1 hx1 hc1 hk1 l1'
   obtain ⟨hk2, ht0, hlk, hnok, hws⟩ := Jbu hwell (of_decide_eq_false hB1) (of_decide_eq_false hB3)
   have hsw : shw (.mk kind text names kids) = 100 :: (QW names.length ++ 58 :: Jak kids names) := by simp only [shw, hB1, hB3, cond_false]
   rw [hsw] at hlen hR
   obtain ⟨q2, hq2, kq2, cq2⟩ := Jcb q 8
   have l2' := (hT.keep kq2).ld.l2
   have ln := hn.len Tryz.underlying22
   obtain ⟨v, s1, hc1, ⟨t1, rfl, ht1⟩, hk1⟩ := Says.use (Jev gl hg q2 names.length (by omega))
   have hx1 := hxq.keep (kq2.trans hk1)
   have p0 := (hxq.keep kq2).lp
   have p1 := hx1.lp
   have htn : t1.n ≤ 6 := by rw [← S.len, ht1]; exact JaP (by omega)
   have hfn : (S.ofList [100]).n = 1 := Qu _
   have hcn : (S.ofList [58]).n = 1 := Qu _
   obtain ⟨z2, a2, b2, n2⟩ := JcU (P := Tryz.prog) (T := 9) (S.ofList [100]) t1 (by omega)
   obtain ⟨z3, a3, b3, n3⟩ := JcU (P := Tryz.prog) (T := 9) z2 (S.ofList [58]) (by omega)
   have hb3 : z3.toList = 100 :: (QW names.length ++ [58]) := by rw [b3, b2, ht1, S.toList_ofList, S.toList_ofList]; rfl
   simp only [List.length_cons, List.length_append] at hlen
   obtain ⟨v, s2, hc2, ⟨F2, hw2, hg2⟩⟩ := Says.use (JhM gl s1 b F l z3 hx1.w (by omega))
   rw [hb3] at hw2
   have hx2 := hx1.go hg2 hw2
   have hgq : Wgo F q F2 s2 := (Wgo.keep (kq2.trans hk1)).trans hg2
   have hNB : ∀ {s : St} {G : Nat → Prop}, Wgo F q G s → NB s st.ctr [.int .u8 (kind : Int), .str text, nv, kv] := fun h => ⟨(h.box hT.lt hFq).1.trans hT.b, Nat.lt_of_lt_of_le hT.lt h.o.ctr⟩
   have m2 := (hNB hgq).ld.l2
   refine Ks_ ?_
   refine DoK.drawP (b := [0, 0, 2, 6, 14, 30, 62, 127]) (rs := [(1, 4), (0, 1), (5, 3)]) (gs := [none, none, none, none, none, none, none, none]) (by kernel_rfl) (by kernel_rfl) (by kernel_rfl) (by kernel_rfl) (by kernel_rfl) fun K1 gK => ?_
   simp only [Jac, Jb2, List.drop_zero, List.drop_succ_cons, List.take_succ_cons, List.take_zero, List.cons_append, List.nil_append]
   simp (disch := omega) [hF, gN2, QX, hvn, hq2, l2', ln, hc1, p0, p1, a2, a3, hc2]
   refine gK _ _ (Ks_ (Ka_ (gs := [none, none, none, none]) fun K1 gK => ?_))
   simp (disch := omega) [gN2, ln, m2]
   refine gK _ _ ?_
   have hF0 : ∀ i, F i → s0.ctr ≤ i := fun i hi => by have := (hx.w.lt hi).1; omega
   refine Kl_ (names.length) (fun i fr st' => ∃ (F3 : Nat → Prop), Fs gl [(1, .ptr pb 0), (2, .ptr wb 0), (3, .ptr st.ctr 0), (17, nv), (18, .int .i64 (names.length : Int)), (19, .int .i64 (i : Int))] fr ∧ i ≤ names.length ∧ Wx b pb wb st' F3 (l ++ (100 :: (QW names.length ++ 58 :: Jak (kids.take i) names))) ∧ Wgo F q F3 st') (0) (fun fr st' => ∃ (F3 : Nat → Prop), Fs gl [] fr ∧ Wx b pb wb st' F3 (l ++ (100 :: (QW names.length ++ 58 :: Jak kids names))) ∧ Wgo F q F3 st') ?_ ?_ ?_ ?_
   ·exact ⟨F2, by simp [Fs, hF], Nat.zero_le _, by (simpa [Jak] using hx2), hgq⟩
   ·rintro i fr st' ⟨F3, _, hi, hx3, hg3⟩
    omega
   ·as_aux_lemma =>
    clear hF
    rintro i fr st' ⟨F3, hF, hi, hx3, hg3⟩ K2 gk2 gx2 go2
    simp only [Fs] at hF
    refine Ks_ (Ka_ (gs := [none]) fun K1 gK => ?_)
    simp (disch := omega) [hF]
    refine gK _ _ (Ks_ ?_)
    by_cases hlt : i < names.length
    ·
     refine Kt_ (by simp (disch := omega) [hlt]) ?_
     have hlk2 : i < kids.length := by omega
     have kb := Wgo.base (hk0.trans kq) hg3 hF0
     have hn1 := hn.keep kb
     have hxi := hn1.ix Tryz.underlying22 z9 (k := .i64) (a := (i : Int)) (by omega) (by omega)
     have hxd := hn1.ld z9 a9 hlt
     have hsl := Jkm kids names (i + 1) hlk.symm
     have hst := JeB kids names i hlk2 hlt
     rw [hst] at hsl
     simp only [List.length_append] at hsl
     obtain ⟨q3, hq3, kq3, cq3⟩ := Jcb st' 4
     obtain ⟨v, s3, hc3, ⟨z4, rfl, hz4, hzn4⟩, hk3⟩ := Says.use (JlJ gl hg q3 names[i] (by have := hns _ (List.getElem_mem hlt); omega))
     have hx4 := hx3.keep (kq3.trans hk3)
     have p2 := (hx3.keep kq3).lp
     have p3 := hx4.lp
     have hz4n : z4.n = (JaN names[i]).length := by rw [← hz4, S.len]
     obtain ⟨v, s4, hc4, ⟨F4, hw4, hg4⟩⟩ := Says.use (JhM gl s3 b F3 _ z4 hx4.w (by simp only [List.length_append, List.length_cons]; omega))
     rw [hz4] at hw4
     have hx5 := hx4.go hg4 hw4
     have hg5 : Wgo F q F4 s4 := hg3.trans ((Wgo.keep (kq3.trans hk3)).trans hg4)
     obtain ⟨q5, hq5, kq5, cq5⟩ := Jcb s4 7
     have hx6 := hx5.keep kq5
     have w1 := hx6.lq
     have m3 := ((hNB hg5).keep kq5).ld.l3
     have kb2 := (Wgo.base (hk0.trans kq) hg5 hF0).trans kq5
     have hkv2 := hkv.keep kb2
     have hls : i < css.length := by rw [hkv.l]; exact hlk2
     have hix := hkv2.s.ix Tryz.underlying23 Jbh (k := .i64) (a := (i : Int)) (by omega) (by omega)
     have hld := hkv2.s.ld Jbh Jdo hls
     obtain ⟨v, s6, hc6, ⟨F6, hx7, hg6⟩⟩ := Says.use (ih _ (List.getElem_mem hlk2) q5 F4 _ _ kb2 (hkv.r i hls hlk2) hx6 (by simp only [List.length_append, List.length_cons]; omega))
     have hvt := (hkv.r i hls hlk2).veq
     refine Kk_ (Ks_ ?_)
     refine Kb_ fun K3 gn3 gx3 go3 => ?_
     refine Ks_ (Ka_ (gs := [none, none, none, none, none]) fun K1 gK => ?_)
     simp (disch := omega) [hF, hlt, hxi, hxd]
     refine gK _ _ (Ks_ ?_)
     refine DoK.drawP (b := [0, 0, 2, 7]) (rs := [(1, 2), (0, 1), (3, 1)]) (gs := [none, none, none, none]) (by kernel_rfl) (by kernel_rfl) (by kernel_rfl) (by kernel_rfl) (by kernel_rfl) fun K1 gK => ?_
     simp only [Jac, Jb2, List.drop_zero, List.drop_succ_cons, List.take_succ_cons, List.take_zero, List.cons_append, List.nil_append]
     simp (disch := omega) [hF, QX, hq3, hc3, p2, p3, hc4]
     refine gK _ _ (Kh_ (b := [0, 0, 2, 0, 14, 30, 63]) (gs := [none, none, none, none, none, none, none]) fun K1 gK => ?_)
     simp (disch := omega) [hF, gN3, Jal, hvk, hvt, hq5, w1, m3, hix, hld, hc6]
     refine gK _ _ (gn3 _ _ (Ka_ (gs := [none, none]) fun K1 gK => ?_))
     simp (disch := omega) [hF]
     refine gK _ _ ?_
     refine gk2 (i + 1) _ _ (by omega) ⟨F6, by simp [Fs, hF], by omega, (by rw [hst]; simpa using hx7), hg5.trans ((Wgo.keep kq5).trans hg6)⟩
    ·
     refine Kf_ (by simp (disch := omega) [hlt]) ?_
     exact Kx_ (gx2 _ _ ⟨F3, by simp [Fs, hF, hlt], (by rw [List.take_of_length_le (show kids.length ≤ i by omega)] at hx3; exact hx3), hg3⟩)
   ·as_aux_lemma =>
    clear hF
    rintro fr st' ⟨F3, hF, hx3, hg3⟩
    simp only [Fs] at hF
    refine gn1 _ _ (gn _ _ ?_)
    simp [JC, Tryz.f21, hF]
    refine hR _ _ ?_
    exact ⟨F3, hx3, (Wgo.keep kq).trans hg3⟩
end Go.Vm
namespace Go.Vm
open Go Go.Proofs Go.Pa
attribute [local simp] OkP QH OkS Qi OkG Qh Qp OkD JY Qr JI Jm Jq vop Js JB ev evs toV Jl Fr.dsTo Fr.glTo Fr.toNone Ji Jj Jk Qk QL Jd JD Jv V.undef JW JM J7 JX J3 J9 J8 Qa JH J4 J5 JZ JO Qb Jt Ju Jw Jz JE Jr JL JN JK Qq
theorem Jpm [Memo] [NY] [NZ] (gl : Gl) (hg : gl.get 1 = some powV) (b pb wb : Nat) (s0 : St) (hsb : s0.ctr ≤ b) : ∀ t : Nt, t.fit → QA t = true → WrW gl b pb wb s0 t := Nt.ind fun kind text names kids ih hf hw st F l cs hk0 h hx hlen => by
 cases hf with
 | mk _ _ _ _ ht hnl hkl hns hks =>
 cases h with
 | mk kind text nv kv names kids css hk hn hs hl hz hr =>
  refine Jnu gl hg b pb wb s0 hsb st F l hk0 kind text nv kv names kids css hn ⟨hs, hl, hr⟩ hz ht hnl hns hw hx hlen fun t ht => ih t ht (hks t ht) ?_
  by_cases h1 : kind = 1
  ·have := (JbY hw (.inl h1)).2.1
   subst this; cases ht
  ·by_cases h3 : kind = 3
   ·have := (JbY hw (.inr h3)).2.1
    subst this; cases ht
   ·exact (Jbu hw h1 h3).2.2.2.2 t ht
theorem JlK (t : Nt) : shw t ≠ [] := by
 cases t with
 | mk kind text names kids =>
  unfold shw
  cases decide (kind = 1) <;> cases decide (kind = 3) <;> simp
theorem JlL {T : TypeId} (hz : Qj Tryz.prog T = some 1) {s : St} {id : Nat} {x v : V} {fl : Bool} (hb : s.box.get id = some (.cells [x] T fl (some 0))) (hv : JgL v = true) :
  ∃ s', Q0 Tryz.prog s T (.ptr id 0) v = some s' ∧ s'.box.get id = some (.cells [v] T fl (some 0)) ∧ s'.ctr = s.ctr ∧ ∀ j, j ≠ id → s'.box.get j = s.box.get j :=
 ⟨_, QR hz hb (by simp) hv, by show (s.box.put id _).get id = _; rw [Tr.get_put, if_pos rfl]; rfl, rfl, fun j hj => by show (s.box.put id _).get j = _; rw [Tr.get_put, if_neg hj]⟩
theorem JaB : Qn V.nilf = true := rfl
theorem Jjn : Jat Tryz.prog 42 = some (.agg [.nilp, .nils]) := by kernel_rfl
theorem Jjo : Jat Tryz.prog 43 = some .nilf := by kernel_rfl
theorem Jjp : Jat Tryz.prog 44 = some .nilf := by kernel_rfl
def Jkn (t : Nt) (v : V) : Prop := ∃ z : S, v = .tup [.str z, .int .i64 ((cond (QA t) 0 4 : Nat) : Int)] ∧ z.toList = cond (QA t) (shw t) []
variable [Memo] [NY] [NZ]
set_option maxHeartbeats 4000000 in
set_option maxRecDepth 100000 in
theorem Jnv (gl : Gl) (hg : gl.get 1 = some powV) {aL : List V} (hh : Hits gl aL) (st : St) (cs : List V) (t : Nt) (hr : NR st cs t) (hf : t.fit) (hlen : (shw t).length ≤ 1000000000) :
  Says Tryz.prog gl 8 [.agg cs] st (fun v st' => Jkn t v ∧ Keep st st') := by
 refine JS (NY.no _ rfl rfl rfl _ _) Tryz.func8 rfl (by kernel_rfl) fun R hR K gr gn => ?_
 generalize hfr : Jx gl [.agg cs] = fr
 have hF : Fs gl [(0, .agg cs)] fr := by subst hfr; simp [Fs]
 simp only [Fs] at hF
 clear hfr
 have ho := hr.ones
 have kq := JJ st cs 25
 have hb := Qc st cs 25
 have hT := NB.new (st := st) (cs := cs)
 generalize Q4 st cs 25 = q at kq hb hT
 have hr := hr.keep kq
 have hld : ∀ {s : St}, Keep q s → Qe Tryz.prog s 25 (.ptr st.ctr 0) = some (.agg cs) := fun k => by
  have hT := hT.keep k
  cases hr with
  | mk => exact hT.ld.l
 have l0 := hld (.refl q)
 obtain ⟨v, s1, hc, rfl, hk1⟩ := Says.use (JkI gl hg hh q cs t hr hf)
 obtain ⟨WN, hWN⟩ : ∃ b, QA t = b := ⟨_, rfl⟩
 simp only [Jkn] at hR
 rw [hWN] at hc hR
 refine Ks_ (Ka_ (gs := [none, none, none]) fun K1 gK => ?_)
 simp (disch := omega) [hF, Ja, ho, hb]
 refine gK _ _ (Ks_ (Ks_ (Ka_ (gs := [none, none, none]) fun K1 gK => ?_)))
 simp (disch := omega) [hF, l0, hc]
 refine gK _ _ ?_
 cases WN with
 | true =>
  refine Kf_ (by simp (disch := omega) []) ?_
  have ku1 := JJ s1 [.nilp, .nils] 42
  have bu1 := QF s1 [.nilp, .nils] 42
  have eu1 := Qc s1 [.nilp, .nils] 42
  have cu1 := QO s1 [.nilp, .nils] 42
  generalize Q4 s1 [.nilp, .nils] 42 = u1 at ku1 bu1 eu1 cu1
  have ku2' := JJ u1 [.nilf] 43
  have bu2' := QF u1 [.nilf] 43
  have eu2' := Qc u1 [.nilf] 43
  have cu2' := QO u1 [.nilf] 43
  generalize Q4 u1 [.nilf] 43 = u2' at ku2' bu2' eu2' cu2'
  obtain ⟨u2, w2, bu2, cu2, ou2⟩ := JlL z43 bu2' (v := .fn 20 [.ptr s1.ctr 0] []) rfl
  have ku3 := JJ u2 [.nilf] 44
  have bu3 := QF u2 [.nilf] 44
  have eu3 := Qc u2 [.nilf] 44
  have cu3 := QO u2 [.nilf] 44
  generalize Q4 u2 [.nilf] 44 = u3 at ku3 bu3 eu3 cu3
  obtain ⟨u4, w4, bu4, cu4, ou4⟩ := JlL z44 bu3 (v := .fn 21 [] [.ptr u1.ctr 0, .ptr u2.ctr 0]) rfl
  have g1 : u4.box.get s1.ctr = some (.cells [.nilp, .nils] 42 true (some 0)) := by
   rw [ou4 _ (by omega), ku3.box _ (by omega), ou2 _ (by omega), ku2'.box _ (by omega)]; exact bu1
  have g2 : u4.box.get u1.ctr = some (.cells [.fn 20 [.ptr s1.ctr 0] []] 43 true (some 0)) := by
   rw [ou4 _ (by omega), ku3.box _ (by omega)]; exact bu2
  have k4 : Keep s1 u4 := ⟨by omega, fun i hi => by rw [ou4 _ (by omega), ku3.box _ (by omega), ou2 _ (by omega), ku2'.box _ (by omega), ku1.box _ hi]⟩
  have hx : Wx s1.ctr u1.ctr u2.ctr u4 (fun i => i = s1.ctr) [] := ⟨⟨by omega, .inl ⟨g1, rfl, fun _ => Iff.rfl⟩⟩, g2, by omega, by omega, bu4, by omega, by omega⟩
  obtain ⟨v, s5, hc5, ⟨F5, hx5, hg5⟩⟩ := Says.use (Jpm gl hg s1.ctr u1.ctr u2.ctr s1 (Nat.le_refl _) t hf hWN u4 _ [] cs k4 (hr.keep hk1) hx (by simpa using hlen))
  rw [List.nil_append] at hx5
  have k5 : Keep s1 s5 := Wgo.base k4 hg5 fun i hi => Nat.le_of_eq hi.symm
  obtain ⟨v, s6, hc6, ⟨z, rfl, hz⟩, hl6⟩ := Says.use (JjP gl s5 s1.ctr _ (hx5.w.bldW (JlK t)) (by omega))
  have k6 : Keep s1 s6 := hl6.keep k5 (Nat.le_refl _)
  have l5 := hld (hk1.trans k4)
  have p4 := hx.lq
  refine Kk_ (Ks_ (Ka_ (gs := [none]) fun K1 gK => ?_))
  simp (disch := omega) [Ja, Jjn, eu1]
  refine gK _ _ (Ks_ (Ka_ (gs := [none, none, none]) fun K1 gK => ?_))
  simp (disch := omega) [Qm, JaB, Jjo, eu2', w2]
  refine gK _ _ (Ks_ (Ka_ (gs := [none]) fun K1 gK => ?_))
  simp (disch := omega) [Qm, JaB, Jjp, eu3]
  refine gK _ _ (Ks_ (Ka_ (gs := [none, none]) fun K1 gK => ?_))
  simp (disch := omega) [w4]
  refine gK _ _ (Ks_ (Ka_ (gs := [none, none, none]) fun K1 gK => ?_))
  simp (disch := omega) [hF, p4, l5, hc5]
  refine gK _ _ (Ks_ (Ka_ (gs := [none, none, none]) fun K1 gK => ?_))
  simp (disch := omega) [hF, hc6]
  refine gK _ _ (Kq_ (gr _ _ ?_))
  simp [JC, Tryz.f8, hF]
  refine hR _ _ ?_
  exact ⟨⟨z, rfl, hz⟩, kq.trans (hk1.trans k6)⟩
 | false =>
  refine Kt_ (by simp (disch := omega) []) (Ks_ (Ka_ (gs := [none, none]) fun K1 gK => ?_))
  simp (disch := omega) []
  refine gK _ _ (Kq_ (gr _ _ ?_))
  simp [JC, Tryz.f8, hF]
  refine hR _ _ ?_
  exact ⟨⟨_, rfl, rfl⟩, kq.trans hk1⟩
def RtW [Memo] (gl : Gl) (t : Nt) : Prop := ∀ (st : St) (cs : List V), NR st cs t → (shw t).length ≤ 1000000000 → Says Tryz.prog gl 27 [.agg cs] st fun v st' => (∃ z : S, v = .str z ∧ z.toList = shw t) ∧ Keep st st'
set_option maxHeartbeats 8000000 in
set_option maxRecDepth 100000 in
theorem Jnw (gl : Gl) (st : St) (kind : Nat) (text : S) (nv kv : V) (names : List S) (kids : List Nt) (css : List (List V)) (hn : Vw st nv names) (hkv : NRs st kv css kids) (hz : vsz nv ≤ 200000000 ∧ vsz kv ≤ 200000000) (htl : text.n ≤ 100000) (hnl : names.length ≤ 900000) (hns : ∀ s ∈ names, s.n ≤ 100000) (hwell : QA (.mk kind text names kids) = true) (hlen : (shw (.mk kind text names kids)).length ≤ 1000000000) (ih : ∀ t ∈ kids, RtW gl t) :
  Says Tryz.prog gl 27 [.agg [.int .u8 (kind : Int), .str text, nv, kv]] st (fun v st' => (∃ z : S, v = .str z ∧ z.toList = shw (.mk kind text names kids)) ∧ Keep st st') := by
 refine JS (NY.no _ rfl rfl rfl _ _) Tryz.func27 rfl (by kernel_rfl) fun R hR K gr gn => ?_
 generalize hfr : Jx gl [.agg [.int .u8 (kind : Int), .str text, nv, kv]] = fr
 have hF : Fs gl [(0, .agg [.int .u8 (kind : Int), .str text, nv, kv])] fr := by subst hfr; simp [Fs]
 simp only [Fs] at hF
 clear hfr
 have ho : ([.int .u8 (kind : Int), .str text, nv, kv] : List V).all Qn = true := by simp only [List.all_cons, hn.one, hkv.s.one]; rfl
 generalize hcs : ([.int .u8 (kind : Int), .str text, nv, kv] : List V) = cs at ho hF
 have kq := JJ st cs 25
 have hb := Qc st cs 25
 have hT := NB.new (st := st) (cs := cs)
 generalize Q4 st cs 25 = q at kq hb hT
 rw [← hcs] at hT
 have hn := hn.keep kq
 have hkv := hkv.keep kq
 obtain ⟨l0, l1, l2, l3, _⟩ := hT.ld
 obtain ⟨q1, hq1, kq1, cq1⟩ := Jcb q 10
 have l1' := (hT.keep kq1).ld.l1
 obtain ⟨v, s1, hc1, ⟨z1, rfl, hz1⟩, hk1⟩ := Says.use (Jh1 gl q1 text.n (by omega))
 have l1'' := ((hT.keep kq1).keep hk1).ld.l1
 have hzn1 : z1.n ≤ 6 := by rw [← S.len, hz1]; exact JaP (by omega)
 have hcn : (S.ofList [58]).n = 1 := Qu _
 obtain ⟨B1, hB1⟩ : ∃ b, decide (kind = 1) = b := ⟨_, rfl⟩
 obtain ⟨B3, hB3⟩ : ∃ b, decide (kind = 3) = b := ⟨_, rfl⟩
 have e1 : ∀ kk, Jn Tryz.prog kk .eql 5 (.int .u8 (kind : Int)) (.int .u8 1) = some (.bool B1) := fun kk => by rw [← hB1]; exact JH
 have e3 : ∀ kk, Jn Tryz.prog kk .eql 5 (.int .u8 (kind : Int)) (.int .u8 3) = some (.bool B3) := fun kk => by rw [← hB3]; exact JH
 refine Ks_ (Ka_ (gs := [none, none]) fun K1 gK => ?_)
 simp (disch := omega) [hF, Ja, ho, hb]
 refine gK _ _ (Ks_ (Ks_ (Ka_ (gs := [none, none]) fun K1 gK => ?_)))
 simp (disch := omega) [gN0, l0]
 refine gK _ _ ?_
 refine Kb_ fun K1 gn1 gx1 go1 => ?_
 have gr1 := fun fr st h => go1 AE.ret fr st trivial (gr fr st h)
 refine Ks_ (Ka_ (gs := [none, none]) fun K1 gK => ?_)
 simp (disch := omega) [e1]
 refine gK _ _ ?_
 cases B1 with
 | true =>
  refine Kt_ (by simp (disch := omega) []) ?_
  have hsw : shw (.mk kind text names kids) = 102 :: JaN text := by simp only [shw, hB1, cond_true]
  have hfn : (S.ofList [102]).n = 1 := Qu _
  obtain ⟨z2, a2, b2, n2⟩ := JcU (P := Tryz.prog) (T := 9) (S.ofList [102]) z1 (by omega)
  obtain ⟨z3, a3, b3, n3⟩ := JcU (P := Tryz.prog) (T := 9) z2 (S.ofList [58]) (by omega)
  obtain ⟨z4, a4, b4, n4⟩ := JcU (P := Tryz.prog) (T := 9) z3 text (by omega)
  refine Ks_ (Kh_ (b := [0, 1, 3, 7, 15, 31, 0, 64, 255, 511]) (gs := [none, none, none, none, none, none, none, none, none, none]) fun K1 gK => ?_)
  simp (disch := omega) [hF, gN1, Jb, hq1, l1', hc1, l1'', a2, a3, a4]
  refine gK _ _ (Kq_ (gr1 _ _ ?_))
  simp [JC, Tryz.f27, hF]
  refine hR _ _ ?_
  exact ⟨⟨z4, rfl, by rw [b4, b3, b2, hz1, hsw, S.toList_ofList, S.toList_ofList, JaN]; simp⟩, kq.trans (kq1.trans hk1)⟩
 | false =>
  refine Kf_ (by simp (disch := omega) []) (Ks_ (Ka_ (gs := [none, none]) fun K1 gK => ?_))
  simp (disch := omega) [e3]
  refine gK _ _ ?_
  cases B3 with
  | true =>
   refine Kt_ (by simp (disch := omega) []) ?_
   have hsw : shw (.mk kind text names kids) = 108 :: JaN text := by simp only [shw, hB1, hB3, cond_true, cond_false]
   have hfn : (S.ofList [108]).n = 1 := Qu _
   obtain ⟨z2, a2, b2, n2⟩ := JcU (P := Tryz.prog) (T := 9) (S.ofList [108]) z1 (by omega)
   obtain ⟨z3, a3, b3, n3⟩ := JcU (P := Tryz.prog) (T := 9) z2 (S.ofList [58]) (by omega)
   obtain ⟨z4, a4, b4, n4⟩ := JcU (P := Tryz.prog) (T := 9) z3 text (by omega)
   refine Ks_ (Kh_ (b := [0, 1, 3, 7, 15, 31, 0, 64, 255, 511]) (gs := [none, none, none, none, none, none, none, none, none, none]) fun K1 gK => ?_)
   simp (disch := omega) [hF, gN1, Jb, hq1, l1', hc1, l1'', a2, a3, a4]
   refine gK _ _ (Kq_ (gr1 _ _ ?_))
   simp [JC, Tryz.f27, hF]
   refine hR _ _ ?_
   exact ⟨⟨z4, rfl, by rw [b4, b3, b2, hz1, hsw, S.toList_ofList, S.toList_ofList, JaN]; simp⟩, kq.trans (kq1.trans hk1)⟩
  | false =>
   refine Kf_ (by simp (disch := omega) []) ?_
   clear hz1 hzn1 hc1 hk1 l1' l1''
   obtain ⟨hk2, ht0, hlk, hnok, hws⟩ := Jbu hwell (of_decide_eq_false hB1) (of_decide_eq_false hB3)
   have hsw : shw (.mk kind text names kids) = 100 :: (QW names.length ++ 58 :: Jak kids names) := by simp only [shw, hB1, hB3, cond_false]
   rw [hsw] at hlen hR
   have ln := hn.len Tryz.underlying22
   obtain ⟨v, s1, hc1, ⟨t1, rfl, ht1⟩, hk1⟩ := Says.use (Jh1 gl q names.length (by omega))
   have htn : t1.n ≤ 6 := by rw [← S.len, ht1]; exact JaP (by omega)
   have hfn : (S.ofList [100]).n = 1 := Qu _
   obtain ⟨z2, a2, b2, n2⟩ := JcU (P := Tryz.prog) (T := 9) (S.ofList [100]) t1 (by omega)
   obtain ⟨z3, a3, b3, n3⟩ := JcU (P := Tryz.prog) (T := 9) z2 (S.ofList [58]) (by omega)
   have hb3 : z3.toList = 100 :: (QW names.length ++ 58 :: Jak (kids.take 0) names) := by rw [b3, b2, ht1, S.toList_ofList, S.toList_ofList]; simp [Jak]
   simp only [List.length_cons, List.length_append] at hlen
   refine Kk_ (gn1 _ _ (Ks_ (Ka_ (gs := [none, none, none, none, none, none, none]) fun K1 gK => ?_)))
   simp (disch := omega) [hF, gN2, l2, ln, hc1, a2, a3]
   refine gK _ _ (Ks_ (Ks_ (Ka_ (gs := [none]) fun K1 gK => ?_)))
   simp (disch := omega) []
   refine gK _ _ ?_
   have hvn : veq 1000000000 nv nv = true := Qz _ (by omega)
   have hvk : veq 1000000000 kv kv = true := Qz _ (by omega)
   refine Kl_ (names.length) (fun i fr st' => ∃ (acc : S), Fs gl [(1, .ptr st.ctr 0), (3, .str acc), (4, .int .i64 (i : Int))] fr ∧ i ≤ names.length ∧ acc.toList = 100 :: (QW names.length ++ 58 :: Jak (kids.take i) names) ∧ Keep q st') (0) (fun fr st' => ∃ (acc : S), Fs gl [(3, .str acc)] fr ∧ acc.toList = 100 :: (QW names.length ++ 58 :: Jak kids names) ∧ Keep q st') ?_ ?_ ?_ ?_
   ·exact ⟨z3, by simp [Fs, hF], Nat.zero_le _, hb3, hk1⟩
   ·rintro i fr st' ⟨acc, _, hi, hacc, hkq⟩
    omega
   ·as_aux_lemma =>
    clear hF
    rintro i fr st' ⟨acc, hF, hi, hacc, hkq⟩ K2 gk2 gx2 go2
    simp only [Fs] at hF
    have hT1 := hT.keep hkq
    have m2 := hT1.ld.l2
    refine Ks_ (Ks_ (Ka_ (gs := [none, none, none, none, none]) fun K1 gK => ?_))
    simp (disch := omega) [hF, gN2, ln, m2]
    refine gK _ _ ?_
    by_cases hlt : i < names.length
    ·
     refine Kt_ (by simp (disch := omega) [hlt]) ?_
     have hlk2 : i < kids.length := by omega
     obtain ⟨q3, hq3, kq3, cq3⟩ := Jcb st' 24
     obtain ⟨v, s3, hc3, ⟨d3, rfl, hd3⟩, hk3⟩ := Says.use (Jh1 gl q3 names[i].n (by have := hns _ (List.getElem_mem hlt); omega))
     have hdn : d3.n ≤ 6 := by rw [← S.len, hd3]; exact JaP (by have := hns _ (List.getElem_mem hlt); omega)
     have ka := hkq.trans kq3
     have kb := ka.trans hk3
     have hls : i < css.length := by rw [hkv.l]; exact hlk2
     have hkr := (hkv.keep kb).r i hls hlk2
     have hsl := Jkm kids names (i + 1) hlk.symm
     have hst := JeB kids names i hlk2 hlt
     rw [hst] at hsl
     simp only [List.length_append] at hsl
     have hcl : (JaN names[i]).length = (QW names[i].n).length + (1 + names[i].n) := by rw [JaN]; simp [S.len]; omega
     obtain ⟨v, s4, hc4, ⟨w4, rfl, hw4⟩, hk4⟩ := Says.use (ih _ (List.getElem_mem hlk2) s3 _ hkr (by omega))
     have kc := kb.trans hk4
     have hxi := (hn.keep ka).ix Tryz.underlying22 z9 (k := .i64) (a := (i : Int)) (by omega) (by omega)
     have xa := (hn.keep ka).ld z9 a9 hlt
     have xb := (hn.keep kb).ld z9 a9 hlt
     have xc := (hn.keep kc).ld z9 a9 hlt
     have na := (hT.keep ka).ld.l2
     have nb := (hT.keep kb).ld.l2
     have nc := (hT.keep kc).ld.l2
     have oa := (hT.keep ka).ld.l3
     have ob := (hT.keep kb).ld.l3
     have oc := (hT.keep kc).ld.l3
     have hix := (hkv.keep ka).s.ix Tryz.underlying23 Jbh (k := .i64) (a := (i : Int)) (by omega) (by omega)
     have da := (hkv.keep ka).s.ld Jbh Jdo hls
     have db := (hkv.keep kb).s.ld Jbh Jdo hls
     have dc := (hkv.keep kc).s.ld Jbh Jdo hls
     have hvt := hkr.veq
     have hal : acc.n = 1 + ((QW names.length).length + (1 + (Jak (kids.take i) names).length)) := by rw [← S.len, hacc]; simp; omega
     have hnn := hns _ (List.getElem_mem hlt)
     have hwn : w4.n = (shw kids[i]).length := by rw [← hw4, S.len]
     obtain ⟨y1, a1, b1, n1⟩ := JcU (P := Tryz.prog) (T := 9) acc d3 (by omega)
     obtain ⟨y2, a2, b2, n2⟩ := JcU (P := Tryz.prog) (T := 9) y1 (S.ofList [58]) (by omega)
     obtain ⟨y3, a3, b3, n3⟩ := JcU (P := Tryz.prog) (T := 9) y2 names[i] (by omega)
     obtain ⟨y4, a4, b4, n4⟩ := JcU (P := Tryz.prog) (T := 9) y3 w4 (by omega)
     have hy4 : y4.toList = 100 :: (QW names.length ++ 58 :: Jak (kids.take (i + 1)) names) := by
      rw [b4, b3, b2, b1, hacc, hd3, hw4, hst, S.toList_ofList, JaN]; simp
     refine Kk_ (Ks_ ?_)
     refine Kb_ fun K3 gn3 gx3 go3 => ?_
     refine DoK.drawP (b := [0, 0, 2, 0, 14, 30, 62, 126, 255, 511, 0, 1024, 0, 7168, 15360, 32767, 0, 65536, 0, 458752, 983040, 2031870, 4194303, 8388607]) (rs := [(1, 7), (16, 6), (0, 1), (8, 8), (22, 2)]) (gs := [none, none, none, none, none, none, none, none, none, none, none, none, none, none, none, none, none, none, none, none, none, none, none, none]) (by kernel_rfl) (by kernel_rfl) (by kernel_rfl) (by kernel_rfl) (by kernel_rfl) fun K1 gK => ?_
     simp only [Jac, Jb2, List.drop_zero, List.drop_succ_cons, List.take_succ_cons, List.take_zero, List.cons_append, List.nil_append]
     simp (disch := omega) [hF, gN2, gN3, Jb, hlt, hvn, hvk, hvt, hq3, hc3, hc4, hxi, xa, xb, xc, na, nb, nc, oa, ob, hix, da, db, a1, a2, a3, a4]
     refine gK _ _ (gn3 _ _ (Ka_ (gs := [none, none, none]) fun K1 gK => ?_))
     simp (disch := omega) [hF]
     refine gK _ _ ?_
     refine gk2 (i + 1) _ _ (by omega) ⟨y4, by simp [Fs, hF], by omega, hy4, kc⟩
    ·
     refine Kf_ (by simp (disch := omega) [hlt]) ?_
     exact Kx_ (gx2 _ _ ⟨acc, by simp [Fs, hF, hlt], (by rw [List.take_of_length_le (show kids.length ≤ i by omega)] at hacc; exact hacc), hkq⟩)
   ·as_aux_lemma =>
    clear hF
    rintro fr st' ⟨acc, hF, hacc, hkq⟩
    simp only [Fs] at hF
    refine Ks_ (Ka_ (gs := [none, none]) fun K1 gK => ?_)
    simp (disch := omega) [hF]
    refine gK _ _ (Kq_ (gr _ _ ?_))
    simp [JC, Tryz.f27, hF]
    refine hR _ _ ?_
    exact ⟨⟨acc, rfl, hacc⟩, kq.trans hkq⟩
theorem Jpn (gl : Gl) : ∀ t : Nt, t.fit → QA t = true → RtW gl t := Nt.ind fun kind text names kids ih hf hw st cs h hlen => by
 cases hf with
 | mk _ _ _ _ ht hnl hkl hns hks =>
 cases h with
 | mk kind text nv kv names kids css hk hn hs hl hz hr =>
  refine Jnw gl st kind text nv kv names kids css hn ⟨hs, hl, hr⟩ hz ht hnl hns hw hlen fun t ht => ih t ht (hks t ht) ?_
  by_cases h1 : kind = 1
  ·have := (JbY hw (.inl h1)).2.1
   subst this; cases ht
  ·by_cases h3 : kind = 3
   ·have := (JbY hw (.inr h3)).2.1
    subst this; cases ht
   ·exact (Jbu hw h1 h3).2.2.2.2 t ht
set_option maxHeartbeats 4000000 in
set_option maxRecDepth 100000 in
theorem JlM (gl : Gl) (st : St) (cs : List V) (t : Nt) (hr : NR st cs t) (hf : t.fit) (hlen : (shw t).length ≤ 1000000000) :
  Says Tryz.prog gl 9 [.agg cs] st (fun v st' => Jkn t v ∧ Keep st st') := by
 refine JS (NY.no _ rfl rfl rfl _ _) Tryz.func9 rfl (by kernel_rfl) fun R hR K gr gn => ?_
 generalize hfr : Jx gl [.agg cs] = fr
 have hF : Fs gl [(0, .agg cs)] fr := by subst hfr; simp [Fs]
 simp only [Fs] at hF
 clear hfr
 have ho := hr.ones
 have kq := JJ st cs 25
 have hb := Qc st cs 25
 have hT := NB.new (st := st) (cs := cs)
 generalize Q4 st cs 25 = q at kq hb hT
 have hr := hr.keep kq
 have hld : ∀ {s : St}, Keep q s → Qe Tryz.prog s 25 (.ptr st.ctr 0) = some (.agg cs) := fun k => by
  have hT := hT.keep k
  cases hr with
  | mk => exact hT.ld.l
 have l0 := hld (.refl q)
 obtain ⟨v, s1, hc, rfl, hk1⟩ := Says.use (JfU gl t hf q cs hr)
 have l1 := hld hk1
 obtain ⟨v, s2, hc2, rfl, hk2⟩ := Says.use (JmQ gl t hf s1 cs (hr.keep hk1))
 have l2 := hld (hk1.trans hk2)
 obtain ⟨WN, hWN⟩ : ∃ b, QA t = b := ⟨_, rfl⟩
 simp only [Jkn] at hR
 rw [hWN] at hc hR
 cases WN with
 | true =>
  obtain ⟨v, s3, hc3, ⟨z, rfl, hz⟩, hk3⟩ := Says.use (Jpn gl t hf hWN s2 cs (hr.keep (hk1.trans hk2)) hlen)
  refine Ks_ (Ka_ (gs := [none, none, none]) fun K1 gK => ?_)
  simp (disch := omega) [hF, Ja, ho, hb]
  refine gK _ _ (Ks_ (Ks_ (Ka_ (gs := [none, none, none, none, some (some 7, false), some (some 7, false), some (some 7, false), none]) fun K1 gK => ?_)))
  simp (disch := omega) [hF, l0, hc, l1, hc2]
  refine gK _ _ (Kf_ (by simp (disch := omega) []) (Kk_ (Ks_ (Ka_ (gs := [none, none, none, none]) fun K1 gK => ?_))))
  simp (disch := omega) [hF, l2, hc3]
  refine gK _ _ (Kq_ (gr _ _ ?_))
  simp [JC, Tryz.f9, hF]
  refine hR _ _ ?_
  exact ⟨⟨z, rfl, hz⟩, kq.trans (hk1.trans (hk2.trans hk3))⟩
 | false =>
  refine Ks_ (Ka_ (gs := [none, none, none]) fun K1 gK => ?_)
  simp (disch := omega) [hF, Ja, ho, hb]
  refine gK _ _ (Ks_ (Ks_ (Ka_ (gs := [none, none, none, none, some (some 7, false), some (some 7, false), some (some 7, false), none]) fun K1 gK => ?_)))
  simp (disch := omega) [hF, l0, hc]
  refine gK _ _ (Kt_ (by simp (disch := omega) []) (Ks_ (Ka_ (gs := [none, none]) fun K1 gK => ?_)))
  simp (disch := omega) []
  refine gK _ _ (Kq_ (gr _ _ ?_))
  simp [JC, Tryz.f9, hF]
  refine hR _ _ ?_
  exact ⟨⟨_, rfl, rfl⟩, kq.trans hk1⟩
end Go.Vm
