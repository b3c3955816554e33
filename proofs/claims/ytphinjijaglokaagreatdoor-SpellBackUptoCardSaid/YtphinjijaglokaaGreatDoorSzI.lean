/- A node's text: by the program. -/
import Derived.Test.YtphinjijaglokaaGreatDoorSzH
import Derived.Test.YtphinjijaglokaaGreatDoorSz4
namespace Go.Vm
open Go Go.Proofs Go.Pa
attribute [local simp] OkP Qr OkS Qf OkG Qa Qe OkD J3 Qd JA Je Jj vop Jk Jr ev evs toV Ji Fr.dsTo Fr.glTo Fr.toNone Jf Jg Jh J9 Qu Jc Jy Jn V.undef JP JI JY JS JZ J7 J0 J1 JD J2 JV JT JQ J8 Jq Jo Jt Jw Jx Jp JL JM JC Qg
theorem JiT {P : Program} {T : TypeId} (x y : S) (h : x.n + y.n < 1000000000000000) : ∃ z : S, (∀ kk, Js P kk .add T (.str x) (.str y) = some (.str z)) ∧ z.toList = x.toList ++ y.toList ∧ z.n = x.n + y.n :=
 ⟨x.app y, fun _kk => JhM h, S.toList_app x y, Jme x y⟩
def Ja8 (s : S) : List UInt8 := QY s.n ++ 58 :: s.toList
mutual
def shw : Nt → List UInt8
 | .mk kind text names kids => cond (decide (kind = 1)) (102 :: Ja8 text) (cond (decide (kind = 3)) (108 :: Ja8 text) (100 :: (QY names.length ++ 58 :: QZ kids names)))
def QZ : List Nt → List S → List UInt8
 | [], _ => []
 | t :: l, names => match names with
  | [] => []
  | s :: r => Ja8 s ++ (shw t ++ QZ l r)
end
theorem Jeg : ∀ (l : List Nt) (ns : List S) (i : Nat), l.length = ns.length → QZ l ns = QZ (l.take i) ns ++ QZ (l.drop i) (ns.drop i)
 | [], ns, i, _ => by simp [QZ]
 | t :: l, [], i, h => by simp at h
 | t :: l, s :: r, 0, _ => by simp [QZ]
 | t :: l, s :: r, i + 1, h => by
  have := Jeg l r i (by simpa using h)
  simp only [List.take_succ_cons, List.drop_succ_cons, QZ, this, List.append_assoc]
theorem Jfd : ∀ (l : List Nt) (ns : List S) (i : Nat) (h : i < l.length) (h' : i < ns.length), QZ (l.take (i + 1)) ns = QZ (l.take i) ns ++ (Ja8 ns[i] ++ shw l[i])
 | [], ns, i, h, _ => by simp at h
 | t :: l, [], i, _, h => by simp at h
 | t :: l, s :: r, 0, _, _ => by simp [QZ]
 | t :: l, s :: r, i + 1, h, h' => by
  have := Jfd l r i (by simpa using h) (by simpa using h')
  simp only [List.take_succ_cons, QZ, this, List.append_assoc, List.getElem_cons_succ]
theorem JkV (l : List Nt) (ns : List S) (i : Nat) (h : l.length = ns.length) : (QZ (l.take i) ns).length ≤ (QZ l ns).length := by
 have := congrArg List.length (Jeg l ns i h)
 rw [List.length_append] at this; omega
structure Wx (b pb wb : Nat) (st : St) (F : Nat → Prop) (l : List UInt8) : Prop where
 w : Wb b st F l
 p : st.box.get pb = some (.cells [.fn 20 [.ptr b 0] []] 43 true (some 0))
 plt : pb < st.ctr
 pf : ¬ F pb
 q : st.box.get wb = some (.cells [.fn 21 [] [.ptr pb 0, .ptr wb 0]] 44 true (some 0))
 qlt : wb < st.ctr
 qf : ¬ F wb
theorem Wx.keep {b pb wb : Nat} {st st' : St} {F : Nat → Prop} {l : List UInt8} (h : Wx b pb wb st F l) (k : Keep st st') : Wx b pb wb st' F l :=
 ⟨h.w.keep k, (k.box _ h.plt).trans h.p, Nat.lt_of_lt_of_le h.plt k.ctr, h.pf, (k.box _ h.qlt).trans h.q, Nat.lt_of_lt_of_le h.qlt k.ctr, h.qf⟩
theorem Wx.go {b pb wb : Nat} {st st' : St} {F F' : Nat → Prop} {l l' : List UInt8} (h : Wx b pb wb st F l) (k : Wgo F st F' st') (w : Wb b st' F' l') : Wx b pb wb st' F' l' :=
 ⟨w, (k.box h.plt h.pf).1.trans h.p, Nat.lt_of_lt_of_le h.plt k.o.ctr, (k.box h.plt h.pf).2, (k.box h.qlt h.qf).1.trans h.q, Nat.lt_of_lt_of_le h.qlt k.o.ctr, (k.box h.qlt h.qf).2⟩
theorem z43 : Qc Tryz.prog 43 = some 1 := by kernel_rfl
theorem a43 : QS Tryz.prog 43 = some false := by kernel_rfl
theorem z44 : Qc Tryz.prog 44 = some 1 := by kernel_rfl
theorem a44 : QS Tryz.prog 44 = some false := by kernel_rfl
theorem Wx.lp {b pb wb : Nat} {st : St} {F : Nat → Prop} {l : List UInt8} (h : Wx b pb wb st F l) : Qo Tryz.prog st 43 (.ptr pb 0) = some (.fn 20 [.ptr b 0] []) := Qx (off := 0) a43 z43 h.p rfl
theorem Wx.lq {b pb wb : Nat} {st : St} {F : Nat → Prop} {l : List UInt8} (h : Wx b pb wb st F l) : Qo Tryz.prog st 44 (.ptr wb 0) = some (.fn 21 [] [.ptr pb 0, .ptr wb 0]) := Qx (off := 0) a44 z44 h.q rfl
theorem JcO (st : St) (n : Nat) : ∃ q : St, ({ ctr := st.ctr + n, box := st.box } : St) = q ∧ Keep st q ∧ st.ctr + n = q.ctr := ⟨_, rfl, JeE st n, rfl⟩
theorem JcE {kind : Nat} {text : S} {names : List S} {kids : List Nt} (h : QQ (.mk kind text names kids) = true) (hk : kind = 1 ∨ kind = 3) : names = [] ∧ kids = [] ∧ Jfz text = true ∧ (kind = 3 → text.n ≠ 0) := by
 unfold QQ at h
 have : (decide (kind = 1) || decide (kind = 3)) = true := by rcases hk with rfl | rfl <;> rfl
 rw [this, cond_true] at h
 simp only [Bool.and_eq_true, decide_eq_true_eq, Bool.or_eq_true, Bool.not_eq_true', decide_eq_false_iff_not] at h
 obtain ⟨h1, h2, h3⟩ := h
 exact ⟨List.eq_nil_of_length_eq_zero (by omega), List.eq_nil_of_length_eq_zero (by omega), h2, fun h => by rcases h3 with h3 | h3; omega; exact h3⟩
theorem Jdf {kind : Nat} {text : S} {names : List S} {kids : List Nt} (h : QQ (.mk kind text names kids) = true) (h1 : kind ≠ 1) (h3 : kind ≠ 3) : kind = 2 ∧ text.n = 0 ∧ names.length = kids.length ∧ JaM names = true ∧ ∀ t ∈ kids, QQ t = true := by
 unfold QQ at h
 rw [decide_eq_false h1, decide_eq_false h3] at h
 by_cases h2 : kind = 2
 ·rw [decide_eq_true h2] at h
  simp only [Bool.or_self, cond_false, cond_true, Bool.and_eq_true, decide_eq_true_eq] at h
  exact ⟨h2, h.1, h.2.1, h.2.2.1, JbY.1 h.2.2.2⟩
 ·rw [decide_eq_false h2] at h; simp at h
variable [Memo] [NY] [NZ]
set_option maxRecDepth 100000 in
theorem JjD (gl : Gl) (hg : gl.get 1 = some powV) (st : St) (s : S) (hs : s.n < 1000000) :
  Says Tryz.prog gl 22 [.str s] st (fun v st' => (∃ t : S, v = .str t ∧ t.toList = Ja8 s ∧ t.n ≤ s.n + 7) ∧ Keep st st') := by
 refine Qm (NY.no _ rfl rfl rfl _ _) Tryz.func22 rfl (by kernel_rfl) fun R hR K gr gn => ?_
 generalize hfr : JJ gl [.str s] = fr
 have hF : Fs gl [(0, .str s)] fr := by subst hfr; simp [Fs]
 simp only [Fs] at hF
 clear hfr
 obtain ⟨v, s1, hc, ⟨t, rfl, ht⟩, hk⟩ := Says.use (Jdb gl hg st s.n hs)
 have htn : t.n ≤ 6 := by rw [← S.len, ht]; exact Jbu hs
 have hcn : (S.ofList [58]).n = 1 := Jcb _
 obtain ⟨z1, a1, b1, n1⟩ := JiT (P := Tryz.prog) (T := 9) t (S.ofList [58]) (by omega)
 obtain ⟨z2, a2, b2, n2⟩ := JiT (P := Tryz.prog) (T := 9) z1 s (by omega)
 refine Ks_ (Ka_ (gs := [none]) fun K1 gK => ?_)
 simp (disch := omega) []
 refine gK _ _ (Ks_ (Ka_ (gs := [none, none, none, none, none, none, none]) fun K1 gK => ?_))
 simp (disch := omega) [hF, hc, Jb, a1, a2]
 refine gK _ _ (Kq_ (gr _ _ ?_))
 simp [JR, Tryz.f22, hF]
 refine hR _ _ ?_
 exact ⟨⟨z2, rfl, by rw [b2, b1, ht, S.toList_ofList, Ja8]; simp, by omega⟩, hk⟩
def WrW [Memo] (gl : Gl) (b pb wb : Nat) (s0 : St) (t : Nt) : Prop := ∀ (st : St) (F : Nat → Prop) (l : List UInt8) (cs : List V), Keep s0 st → NR s0 cs t → Wx b pb wb st F l → l.length + (shw t).length ≤ 1000000000 → Says Tryz.prog gl 21 [.agg cs, .ptr pb 0, .ptr wb 0] st fun _v st' => ∃ F', Wx b pb wb st' F' (l ++ shw t) ∧ Wgo F st F' st'
omit [Memo] [NY] [NZ] in
theorem Qt {b : Nat} : veq 1000000000 (.fn 20 [.ptr b 0] []) (.fn 20 [.ptr b 0] []) = true := Jaw _ (Nat.le_of_ble_eq_true rfl)
omit [Memo] [NY] [NZ] in
theorem QM {pb wb : Nat} : veq 1000000000 (.fn 21 [] [.ptr pb 0, .ptr wb 0]) (.fn 21 [] [.ptr pb 0, .ptr wb 0]) = true := Jaw _ (Nat.le_of_ble_eq_true rfl)
set_option maxHeartbeats 8000000 in
set_option maxRecDepth 100000 in
theorem JkW (gl : Gl) (hg : gl.get 1 = some powV) (b pb wb : Nat) (s0 : St) (hsb : s0.ctr ≤ b) (st : St) (F : Nat → Prop) (l : List UInt8) (hk0 : Keep s0 st) (kind : Nat) (text : S) (nv kv : V) (names : List S) (kids : List Nt) (css : List (List V)) (hn : Vw s0 nv names) (hkv : NRs s0 kv css kids) (hz : vsz nv ≤ 200000000 ∧ vsz kv ≤ 200000000) (htl : text.n ≤ 100000) (hnl : names.length ≤ 900000) (hns : ∀ s ∈ names, s.n ≤ 100000) (hwell : QQ (.mk kind text names kids) = true) (hx : Wx b pb wb st F l) (hlen : l.length + (shw (.mk kind text names kids)).length ≤ 1000000000) (ih : ∀ t ∈ kids, WrW gl b pb wb s0 t) :
  Says Tryz.prog gl 21 [.agg [.int .u8 (kind : Int), .str text, nv, kv], .ptr pb 0, .ptr wb 0] st (fun _v st' => ∃ F', Wx b pb wb st' F' (l ++ shw (.mk kind text names kids)) ∧ Wgo F st F' st') := by
 refine Qm (NY.no _ rfl rfl rfl _ _) Tryz.func21 rfl (by kernel_rfl) fun R hR K gr gn => ?_
 generalize hfr : JJ gl [.agg [.int .u8 (kind : Int), .str text, nv, kv], .ptr pb 0, .ptr wb 0] = fr
 have hF : Fs gl [(0, .agg [.int .u8 (kind : Int), .str text, nv, kv]), (1, .ptr pb 0), (2, .ptr wb 0)] fr := by subst hfr; simp [Fs]
 simp only [Fs] at hF
 clear hfr
 have ho : ([.int .u8 (kind : Int), .str text, nv, kv] : List V).all QB = true := by simp only [List.all_cons, hn.one, hkv.s.one]; rfl
 generalize hcs : ([.int .u8 (kind : Int), .str text, nv, kv] : List V) = cs at ho hF
 have kq := Qk st cs 25
 have hb := QE st cs 25
 have hT := NB.new (st := st) (cs := cs)
 generalize Jan st cs 25 = q at kq hb hT
 rw [← hcs] at hT
 have hxq := hx.keep kq
 have hFq : ¬ F st.ctr := fun h => by have := (hx.w.lt h).2; omega
 obtain ⟨l0, l1, l2, l3, _⟩ := hT.ld
 obtain ⟨q1, hq1, kq1, cq1⟩ := JcO q 6
 have l1' := (hT.keep kq1).ld.l1
 obtain ⟨v, s1, hc1, ⟨z1, rfl, hz1, hzn1⟩, hk1⟩ := Says.use (JjD gl hg q1 text (by omega))
 have hx1 := hxq.keep (kq1.trans hk1)
 have p0 := (hxq.keep kq1).lp
 have p1 := hx1.lp
 have hvn : veq 1000000000 nv nv = true := Jaw _ (by omega)
 have hvk : veq 1000000000 kv kv = true := Jaw _ (by omega)
 obtain ⟨B1, hB1⟩ : ∃ b, decide (kind = 1) = b := ⟨_, rfl⟩
 obtain ⟨B3, hB3⟩ : ∃ b, decide (kind = 3) = b := ⟨_, rfl⟩
 have e1 : ∀ kk, Js Tryz.prog kk .eql 5 (.int .u8 (kind : Int)) (.int .u8 1) = some (.bool B1) := fun kk => by rw [← hB1]; exact JD
 have e3 : ∀ kk, Js Tryz.prog kk .eql 5 (.int .u8 (kind : Int)) (.int .u8 3) = some (.bool B3) := fun kk => by rw [← hB3]; exact JD
 refine Ks_ (Ka_ (gs := [none]) fun K1 gK => ?_)
 simp (disch := omega) [hF, Ja, ho, hb]
 refine gK _ _ (Ks_ (Ka_ (gs := [none, none]) fun K1 gK => ?_))
 simp (disch := omega) [gN0, l0]
 refine gK _ _ ?_
 refine Kb_ fun K1 gn1 gx1 go1 => ?_
 refine Ks_ (Ka_ (gs := [none, none]) fun K1 gK => ?_)
 simp (disch := omega) [e1]
 refine gK _ _ ?_
 cases B1 with
 | true =>
  refine Kt_ (by simp (disch := omega) []) ?_
  have hsw : shw (.mk kind text names kids) = 102 :: Ja8 text := by simp only [shw, hB1, cond_true]
  have hfn : (S.ofList [102]).n = 1 := Jcb _
  obtain ⟨z2, a2, b2, n2⟩ := JiT (P := Tryz.prog) (T := 9) (S.ofList [102]) z1 (by omega)
  have hb2 : z2.toList = shw (.mk kind text names kids) := by rw [b2, hz1, S.toList_ofList, hsw]; rfl
  have hbn : z2.n = (shw (.mk kind text names kids)).length := by rw [← hb2, S.len]
  obtain ⟨v, s2, hc2, ⟨F2, hw2, hg2⟩⟩ := Says.use (JfX gl s1 b F l z2 hx1.w (by omega))
  rw [hb2] at hw2
  refine DoK.drawP (b := [0, 0, 2, 6, 14, 31]) (rs := [(1, 3), (0, 1), (4, 2)]) (gs := [none, none, none, none, none, none]) (by kernel_rfl) (by kernel_rfl) (by kernel_rfl) (by kernel_rfl) (by kernel_rfl) fun K1 gK => ?_
  simp only [QJ, JbE, List.drop_zero, List.drop_succ_cons, List.take_succ_cons, List.take_zero, List.cons_append, List.nil_append]
  simp (disch := omega) [hF, gN1, Qt, hq1, l1', hc1, p0, p1, a2, hc2]
  refine gK _ _ (gn1 _ _ (gn _ _ ?_))
  simp [JR, Tryz.f21, hF]
  refine hR _ _ ?_
  exact ⟨F2, hx1.go hg2 hw2, (Wgo.keep (kq.trans (kq1.trans hk1))).trans hg2⟩
 | false =>
  refine Kf_ (by simp (disch := omega) []) (Ks_ (Ka_ (gs := [none, none]) fun K1 gK => ?_))
  simp (disch := omega) [e3]
  refine gK _ _ ?_
  cases B3 with
  | true =>
   refine Kt_ (by simp (disch := omega) []) ?_
   have hsw : shw (.mk kind text names kids) = 108 :: Ja8 text := by simp only [shw, hB1, hB3, cond_true, cond_false]
   have hfn : (S.ofList [108]).n = 1 := Jcb _
   obtain ⟨z2, a2, b2, n2⟩ := JiT (P := Tryz.prog) (T := 9) (S.ofList [108]) z1 (by omega)
   have hb2 : z2.toList = shw (.mk kind text names kids) := by rw [b2, hz1, S.toList_ofList, hsw]; rfl
   have hbn : z2.n = (shw (.mk kind text names kids)).length := by rw [← hb2, S.len]
   obtain ⟨v, s2, hc2, ⟨F2, hw2, hg2⟩⟩ := Says.use (JfX gl s1 b F l z2 hx1.w (by omega))
   rw [hb2] at hw2
   refine DoK.drawP (b := [0, 0, 2, 6, 14, 31]) (rs := [(1, 3), (0, 1), (4, 2)]) (gs := [none, none, none, none, none, none]) (by kernel_rfl) (by kernel_rfl) (by kernel_rfl) (by kernel_rfl) (by kernel_rfl) fun K1 gK => ?_
   simp only [QJ, JbE, List.drop_zero, List.drop_succ_cons, List.take_succ_cons, List.take_zero, List.cons_append, List.nil_append]
   simp (disch := omega) [hF, gN1, Qt, hq1, l1', hc1, p0, p1, a2, hc2]
   refine gK _ _ (gn1 _ _ (gn _ _ ?_))
   simp [JR, Tryz.f21, hF]
   refine hR _ _ ?_
   exact ⟨F2, hx1.go hg2 hw2, (Wgo.keep (kq.trans (kq1.trans hk1))).trans hg2⟩
  | false =>
   refine Kf_ (by simp (disch := omega) []) ?_
   clear hz1 hzn1 p0 p1 hx1 hc1 hk1 l1'
   obtain ⟨hk2, ht0, hlk, hnok, hws⟩ := Jdf hwell (of_decide_eq_false hB1) (of_decide_eq_false hB3)
   have hsw : shw (.mk kind text names kids) = 100 :: (QY names.length ++ 58 :: QZ kids names) := by simp only [shw, hB1, hB3, cond_false]
   rw [hsw] at hlen hR
   obtain ⟨q2, hq2, kq2, cq2⟩ := JcO q 8
   have l2' := (hT.keep kq2).ld.l2
   have ln := hn.len Tryz.underlying22
   obtain ⟨v, s1, hc1, ⟨t1, rfl, ht1⟩, hk1⟩ := Says.use (Jdb gl hg q2 names.length (by omega))
   have hx1 := hxq.keep (kq2.trans hk1)
   have p0 := (hxq.keep kq2).lp
   have p1 := hx1.lp
   have htn : t1.n ≤ 6 := by rw [← S.len, ht1]; exact Jbu (by omega)
   have hfn : (S.ofList [100]).n = 1 := Jcb _
   have hcn : (S.ofList [58]).n = 1 := Jcb _
   obtain ⟨z2, a2, b2, n2⟩ := JiT (P := Tryz.prog) (T := 9) (S.ofList [100]) t1 (by omega)
   obtain ⟨z3, a3, b3, n3⟩ := JiT (P := Tryz.prog) (T := 9) z2 (S.ofList [58]) (by omega)
   have hb3 : z3.toList = 100 :: (QY names.length ++ [58]) := by rw [b3, b2, ht1, S.toList_ofList, S.toList_ofList]; rfl
   simp only [List.length_cons, List.length_append] at hlen
   obtain ⟨v, s2, hc2, ⟨F2, hw2, hg2⟩⟩ := Says.use (JfX gl s1 b F l z3 hx1.w (by omega))
   rw [hb3] at hw2
   have hx2 := hx1.go hg2 hw2
   have hgq : Wgo F q F2 s2 := (Wgo.keep (kq2.trans hk1)).trans hg2
   have hNB : ∀ {s : St} {G : Nat → Prop}, Wgo F q G s → NB s st.ctr [.int .u8 (kind : Int), .str text, nv, kv] := fun h => ⟨(h.box hT.lt hFq).1.trans hT.b, Nat.lt_of_lt_of_le hT.lt h.o.ctr⟩
   have m2 := (hNB hgq).ld.l2
   refine Ks_ ?_
   refine DoK.drawP (b := [0, 0, 2, 6, 14, 30, 62, 127]) (rs := [(1, 4), (0, 1), (5, 3)]) (gs := [none, none, none, none, none, none, none, none]) (by kernel_rfl) (by kernel_rfl) (by kernel_rfl) (by kernel_rfl) (by kernel_rfl) fun K1 gK => ?_
   simp only [QJ, JbE, List.drop_zero, List.drop_succ_cons, List.take_succ_cons, List.take_zero, List.cons_append, List.nil_append]
   simp (disch := omega) [hF, gN2, Qt, hvn, hq2, l2', ln, hc1, p0, p1, a2, a3, hc2]
   refine gK _ _ (Ks_ (Ka_ (gs := [none, none, none, none]) fun K1 gK => ?_))
   simp (disch := omega) [gN2, ln, m2]
   refine gK _ _ ?_
   have hF0 : ∀ i, F i → s0.ctr ≤ i := fun i hi => by have := (hx.w.lt hi).1; omega
   refine Kl_ (names.length) (fun i fr st' => ∃ (F3 : Nat → Prop), Fs gl [(1, .ptr pb 0), (2, .ptr wb 0), (3, .ptr st.ctr 0), (17, nv), (18, .int .i64 (names.length : Int)), (19, .int .i64 (i : Int))] fr ∧ i ≤ names.length ∧ Wx b pb wb st' F3 (l ++ (100 :: (QY names.length ++ 58 :: QZ (kids.take i) names))) ∧ Wgo F q F3 st') (0) (fun fr st' => ∃ (F3 : Nat → Prop), Fs gl [] fr ∧ Wx b pb wb st' F3 (l ++ (100 :: (QY names.length ++ 58 :: QZ kids names))) ∧ Wgo F q F3 st') ?_ ?_ ?_ ?_
   ·exact ⟨F2, by simp [Fs, hF], Nat.zero_le _, by (simpa [QZ] using hx2), hgq⟩
   ·rintro i fr st' ⟨F3, _, hi, hx3, hg3⟩
    omega
   ·as_aux_lemma =>
    clear hF
    rintro i fr st' ⟨F3, hF, hi, hx3, hg3⟩ K2 gk2 gx2 go2
    simp only [Fs] at hF
    refine Ks_ (Ka_ (gs := [none]) fun K1 gK => ?_)
    simp (disch := omega) [hF]
    refine gK _ _ (Ks_ ?_)
    by_cases hlt : i < names.length
    ·
     refine Kt_ (by simp (disch := omega) [hlt]) ?_
     have hlk2 : i < kids.length := by omega
     have kb := Wgo.base (hk0.trans kq) hg3 hF0
     have hn1 := hn.keep kb
     have hxi := hn1.ix Tryz.underlying22 z9 (k := .i64) (a := (i : Int)) (by omega) (by omega)
     have hxd := hn1.ld z9 a9 hlt
     have hsl := JkV kids names (i + 1) hlk.symm
     have hst := Jfd kids names i hlk2 hlt
     rw [hst] at hsl
     simp only [List.length_append] at hsl
     obtain ⟨q3, hq3, kq3, cq3⟩ := JcO st' 4
     obtain ⟨v, s3, hc3, ⟨z4, rfl, hz4, hzn4⟩, hk3⟩ := Says.use (JjD gl hg q3 names[i] (by have := hns _ (List.getElem_mem hlt); omega))
     have hx4 := hx3.keep (kq3.trans hk3)
     have p2 := (hx3.keep kq3).lp
     have p3 := hx4.lp
     have hz4n : z4.n = (Ja8 names[i]).length := by rw [← hz4, S.len]
     obtain ⟨v, s4, hc4, ⟨F4, hw4, hg4⟩⟩ := Says.use (JfX gl s3 b F3 _ z4 hx4.w (by simp only [List.length_append, List.length_cons]; omega))
     rw [hz4] at hw4
     have hx5 := hx4.go hg4 hw4
     have hg5 : Wgo F q F4 s4 := hg3.trans ((Wgo.keep (kq3.trans hk3)).trans hg4)
     obtain ⟨q5, hq5, kq5, cq5⟩ := JcO s4 7
     have hx6 := hx5.keep kq5
     have w1 := hx6.lq
     have m3 := ((hNB hg5).keep kq5).ld.l3
     have kb2 := (Wgo.base (hk0.trans kq) hg5 hF0).trans kq5
     have hkv2 := hkv.keep kb2
     have hls : i < css.length := by rw [hkv.l]; exact hlk2
     have hix := hkv2.s.ix Tryz.underlying23 JcG (k := .i64) (a := (i : Int)) (by omega) (by omega)
     have hld := hkv2.s.ld JcG Jgo hls
     obtain ⟨v, s6, hc6, ⟨F6, hx7, hg6⟩⟩ := Says.use (ih _ (List.getElem_mem hlk2) q5 F4 _ _ kb2 (hkv.r i hls hlk2) hx6 (by simp only [List.length_append, List.length_cons]; omega))
     have hvt := (hkv.r i hls hlk2).veq
     refine Kk_ (Ks_ ?_)
     refine Kb_ fun K3 gn3 gx3 go3 => ?_
     refine Ks_ (Ka_ (gs := [none, none, none, none, none]) fun K1 gK => ?_)
     simp (disch := omega) [hF, hlt, hxi, hxd]
     refine gK _ _ (Ks_ ?_)
     refine DoK.drawP (b := [0, 0, 2, 7]) (rs := [(1, 2), (0, 1), (3, 1)]) (gs := [none, none, none, none]) (by kernel_rfl) (by kernel_rfl) (by kernel_rfl) (by kernel_rfl) (by kernel_rfl) fun K1 gK => ?_
     simp only [QJ, JbE, List.drop_zero, List.drop_succ_cons, List.take_succ_cons, List.take_zero, List.cons_append, List.nil_append]
     simp (disch := omega) [hF, Qt, hq3, hc3, p2, p3, hc4]
     refine gK _ _ (Kh_ (b := [0, 0, 2, 0, 14, 30, 63]) (gs := [none, none, none, none, none, none, none]) fun K1 gK => ?_)
     simp (disch := omega) [hF, gN3, QM, hvk, hvt, hq5, w1, m3, hix, hld, hc6]
     refine gK _ _ (gn3 _ _ (Ka_ (gs := [none, none]) fun K1 gK => ?_))
     simp (disch := omega) [hF]
     refine gK _ _ ?_
     refine gk2 (i + 1) _ _ (by omega) ⟨F6, by simp [Fs, hF], by omega, (by rw [hst]; simpa using hx7), hg5.trans ((Wgo.keep kq5).trans hg6)⟩
    ·
     refine Kf_ (by simp (disch := omega) [hlt]) ?_
     exact Kx_ (gx2 _ _ ⟨F3, by simp [Fs, hF, hlt], (by rw [List.take_of_length_le (show kids.length ≤ i by omega)] at hx3; exact hx3), hg3⟩)
   ·as_aux_lemma =>
    clear hF
    rintro fr st' ⟨F3, hF, hx3, hg3⟩
    simp only [Fs] at hF
    refine gn1 _ _ (gn _ _ ?_)
    simp [JR, Tryz.f21, hF]
    refine hR _ _ ?_
    exact ⟨F3, hx3, (Wgo.keep kq).trans hg3⟩
end Go.Vm
namespace Go.Vm
open Go Go.Proofs Go.Pa
attribute [local simp] OkP Qr OkS Qf OkG Qa Qe OkD J3 Qd JA Je Jj vop Jk Jr ev evs toV Ji Fr.dsTo Fr.glTo Fr.toNone Jf Jg Jh J9 Qu Jc Jy Jn V.undef JP JI JY JS JZ J7 J0 J1 JD J2 JV JT JQ J8 Jq Jo Jt Jw Jx Jp JL JM JC Qg
theorem Jmi [Memo] [NY] [NZ] (gl : Gl) (hg : gl.get 1 = some powV) (b pb wb : Nat) (s0 : St) (hsb : s0.ctr ≤ b) : ∀ t : Nt, t.fit → QQ t = true → WrW gl b pb wb s0 t := Nt.ind fun kind text names kids ih hf hw st F l cs hk0 h hx hlen => by
 cases hf with
 | mk _ _ _ _ ht hnl hkl hns hks =>
 cases h with
 | mk kind text nv kv names kids css hk hn hs hl hz hr =>
  refine JkW gl hg b pb wb s0 hsb st F l hk0 kind text nv kv names kids css hn ⟨hs, hl, hr⟩ hz ht hnl hns hw hx hlen fun t ht => ih t ht (hks t ht) ?_
  by_cases h1 : kind = 1
  ·have := (JcE hw (.inl h1)).2.1
   subst this; cases ht
  ·by_cases h3 : kind = 3
   ·have := (JcE hw (.inr h3)).2.1
    subst this; cases ht
   ·exact (Jdf hw h1 h3).2.2.2.2 t ht
theorem JjE (t : Nt) : shw t ≠ [] := by
 cases t with
 | mk kind text names kids =>
  unfold shw
  cases decide (kind = 1) <;> cases decide (kind = 3) <;> simp
theorem JjF {T : TypeId} (hz : Qc Tryz.prog T = some 1) {s : St} {id : Nat} {x v : V} {fl : Bool} (hb : s.box.get id = some (.cells [x] T fl (some 0))) (hv : JgO v = true) :
  ∃ s', Q3 Tryz.prog s T (.ptr id 0) v = some s' ∧ s'.box.get id = some (.cells [v] T fl (some 0)) ∧ s'.ctr = s.ctr ∧ ∀ j, j ≠ id → s'.box.get j = s.box.get j :=
 ⟨_, Q1 hz hb (by simp) hv, by show (s.box.put id _).get id = _; rw [Tr.get_put, if_pos rfl]; rfl, rfl, fun j hj => by show (s.box.put id _).get j = _; rw [Tr.get_put, if_neg hj]⟩
theorem Q5 : QB V.nilf = true := rfl
theorem Jhs : Q6 Tryz.prog 42 = some (.agg [.nilp, .nils]) := by kernel_rfl
theorem Jht : Q6 Tryz.prog 43 = some .nilf := by kernel_rfl
theorem Jhu : Q6 Tryz.prog 44 = some .nilf := by kernel_rfl
def Jlu (t : Nt) (v : V) : Prop := ∃ z : S, v = .tup [.str z, .int .i64 ((cond (QQ t) 0 4 : Nat) : Int)] ∧ z.toList = cond (QQ t) (shw t) []
variable [Memo] [NY] [NZ]
set_option maxHeartbeats 4000000 in
set_option maxRecDepth 100000 in
theorem Jiq (gl : Gl) (hg : gl.get 1 = some powV) {aL : List V} (hh : Hits gl aL) (st : St) (cs : List V) (t : Nt) (hr : NR st cs t) (hf : t.fit) (hlen : (shw t).length ≤ 1000000000) :
  Says Tryz.prog gl 8 [.agg cs] st (fun v st' => Jlu t v ∧ Keep st st') := by
 refine Qm (NY.no _ rfl rfl rfl _ _) Tryz.func8 rfl (by kernel_rfl) fun R hR K gr gn => ?_
 generalize hfr : JJ gl [.agg cs] = fr
 have hF : Fs gl [(0, .agg cs)] fr := by subst hfr; simp [Fs]
 simp only [Fs] at hF
 clear hfr
 have ho := hr.ones
 have kq := Qk st cs 25
 have hb := QE st cs 25
 have hT := NB.new (st := st) (cs := cs)
 generalize Jan st cs 25 = q at kq hb hT
 have hr := hr.keep kq
 have hld : ∀ {s : St}, Keep q s → Qo Tryz.prog s 25 (.ptr st.ctr 0) = some (.agg cs) := fun k => by
  have hT := hT.keep k
  cases hr with
  | mk => exact hT.ld.l
 have l0 := hld (.refl q)
 obtain ⟨v, s1, hc, rfl, hk1⟩ := Says.use (Jll gl hg hh q cs t hr hf)
 obtain ⟨WN, hWN⟩ : ∃ b, QQ t = b := ⟨_, rfl⟩
 simp only [Jlu] at hR
 rw [hWN] at hc hR
 refine Ks_ (Ka_ (gs := [none, none, none]) fun K1 gK => ?_)
 simp (disch := omega) [hF, Ja, ho, hb]
 refine gK _ _ (Ks_ (Ks_ (Ka_ (gs := [none, none, none]) fun K1 gK => ?_)))
 simp (disch := omega) [hF, l0, hc]
 refine gK _ _ ?_
 cases WN with
 | true =>
  refine Kf_ (by simp (disch := omega) []) ?_
  have ku1 := Qk s1 [.nilp, .nils] 42
  have bu1 := Q4 s1 [.nilp, .nils] 42
  have eu1 := QE s1 [.nilp, .nils] 42
  have cu1 := Jai s1 [.nilp, .nils] 42
  generalize Jan s1 [.nilp, .nils] 42 = u1 at ku1 bu1 eu1 cu1
  have ku2' := Qk u1 [.nilf] 43
  have bu2' := Q4 u1 [.nilf] 43
  have eu2' := QE u1 [.nilf] 43
  have cu2' := Jai u1 [.nilf] 43
  generalize Jan u1 [.nilf] 43 = u2' at ku2' bu2' eu2' cu2'
  obtain ⟨u2, w2, bu2, cu2, ou2⟩ := JjF z43 bu2' (v := .fn 20 [.ptr s1.ctr 0] []) rfl
  have ku3 := Qk u2 [.nilf] 44
  have bu3 := Q4 u2 [.nilf] 44
  have eu3 := QE u2 [.nilf] 44
  have cu3 := Jai u2 [.nilf] 44
  generalize Jan u2 [.nilf] 44 = u3 at ku3 bu3 eu3 cu3
  obtain ⟨u4, w4, bu4, cu4, ou4⟩ := JjF z44 bu3 (v := .fn 21 [] [.ptr u1.ctr 0, .ptr u2.ctr 0]) rfl
  have g1 : u4.box.get s1.ctr = some (.cells [.nilp, .nils] 42 true (some 0)) := by
   rw [ou4 _ (by omega), ku3.box _ (by omega), ou2 _ (by omega), ku2'.box _ (by omega)]; exact bu1
  have g2 : u4.box.get u1.ctr = some (.cells [.fn 20 [.ptr s1.ctr 0] []] 43 true (some 0)) := by
   rw [ou4 _ (by omega), ku3.box _ (by omega)]; exact bu2
  have k4 : Keep s1 u4 := ⟨by omega, fun i hi => by rw [ou4 _ (by omega), ku3.box _ (by omega), ou2 _ (by omega), ku2'.box _ (by omega), ku1.box _ hi]⟩
  have hx : Wx s1.ctr u1.ctr u2.ctr u4 (fun i => i = s1.ctr) [] := ⟨⟨by omega, .inl ⟨g1, rfl, fun _ => Iff.rfl⟩⟩, g2, by omega, by omega, bu4, by omega, by omega⟩
  obtain ⟨v, s5, hc5, ⟨F5, hx5, hg5⟩⟩ := Says.use (Jmi gl hg s1.ctr u1.ctr u2.ctr s1 (Nat.le_refl _) t hf hWN u4 _ [] cs k4 (hr.keep hk1) hx (by simpa using hlen))
  rw [List.nil_append] at hx5
  have k5 : Keep s1 s5 := Wgo.base k4 hg5 fun i hi => Nat.le_of_eq hi.symm
  obtain ⟨v, s6, hc6, ⟨z, rfl, hz⟩, hl6⟩ := Says.use (JhO gl s5 s1.ctr _ (hx5.w.bldW (JjE t)) (by omega))
  have k6 : Keep s1 s6 := hl6.keep k5 (Nat.le_refl _)
  have l5 := hld (hk1.trans k4)
  have p4 := hx.lq
  refine Kk_ (Ks_ (Ka_ (gs := [none]) fun K1 gK => ?_))
  simp (disch := omega) [Ja, Jhs, eu1]
  refine gK _ _ (Ks_ (Ka_ (gs := [none, none, none]) fun K1 gK => ?_))
  simp (disch := omega) [J5, Q5, Jht, eu2', w2]
  refine gK _ _ (Ks_ (Ka_ (gs := [none]) fun K1 gK => ?_))
  simp (disch := omega) [J5, Q5, Jhu, eu3]
  refine gK _ _ (Ks_ (Ka_ (gs := [none, none]) fun K1 gK => ?_))
  simp (disch := omega) [w4]
  refine gK _ _ (Ks_ (Ka_ (gs := [none, none, none]) fun K1 gK => ?_))
  simp (disch := omega) [hF, p4, l5, hc5]
  refine gK _ _ (Ks_ (Ka_ (gs := [none, none, none]) fun K1 gK => ?_))
  simp (disch := omega) [hF, hc6]
  refine gK _ _ (Kq_ (gr _ _ ?_))
  simp [JR, Tryz.f8, hF]
  refine hR _ _ ?_
  exact ⟨⟨z, rfl, hz⟩, kq.trans (hk1.trans k6)⟩
 | false =>
  refine Kt_ (by simp (disch := omega) []) (Ks_ (Ka_ (gs := [none, none]) fun K1 gK => ?_))
  simp (disch := omega) []
  refine gK _ _ (Kq_ (gr _ _ ?_))
  simp [JR, Tryz.f8, hF]
  refine hR _ _ ?_
  exact ⟨⟨_, rfl, rfl⟩, kq.trans hk1⟩
end Go.Vm
