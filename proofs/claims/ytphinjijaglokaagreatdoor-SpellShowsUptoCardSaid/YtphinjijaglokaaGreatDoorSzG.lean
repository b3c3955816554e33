/- Nodes: what they are; how great one is: by the program. -/
import Derived.Test.YtphinjijaglokaaGreatDoorSzD
import Derived.Test.YtphinjijaglokaaGreatDoorSz4
namespace Go.Vm
open Go Go.Proofs Go.Pa
attribute [local simp] OkG Qh Qp OkD JY Qr JI Jm Jq vop Js JB ev evs toV Jl Fr.dsTo Fr.glTo Fr.toNone Ji Jj Jk Qk QL Jd JD Jv V.undef JW JM J7 JX J3 J9 J8 Qa JH J4 J5 JZ JO Qb Jt Ju Jw Jz JE Jr JL JN JK Qq
inductive Nt
 | mk (kind : Nat) (text : S) (names : List S) (kids : List Nt)
mutual
theorem Nt.ind {p : Nt → Prop} (h : ∀ kind text names kids, (∀ t ∈ kids, p t) → p (.mk kind text names kids)) : ∀ t : Nt, p t
 | .mk kind text names kids => h kind text names kids (Nt.inds h kids)
theorem Nt.inds {p : Nt → Prop} (h : ∀ kind text names kids, (∀ t ∈ kids, p t) → p (.mk kind text names kids)) : ∀ l : List Nt, ∀ t ∈ l, p t
 | [] => fun _ ht => by cases ht
 | u :: l => fun t ht => (List.mem_cons.1 ht).elim (fun e => e ▸ Nt.ind h u) (Nt.inds h l t)
end
inductive NR (st : St) : List V → Nt → Prop
 | mk (kind : Nat) (text : S) (nv kv : V) (names : List S) (kids : List Nt) (css : List (List V)) (hk : kind < 256) (hn : Vw st nv names) (hs : Sv 4 st kv css) (hl : css.length = kids.length) (hz : vsz nv ≤ 200000000 ∧ vsz kv ≤ 200000000)
   (hr : ∀ i (h : i < css.length) (h' : i < kids.length), NR st css[i] kids[i]) : NR st [.int .u8 (kind : Int), .str text, nv, kv] (.mk kind text names kids)
theorem NR.keep {st st' : St} {cs : List V} {t : Nt} (h : NR st cs t) (k : Keep st st') : NR st' cs t := by
 induction h with
 | mk kind text nv kv names kids css hk hn hs hl hz hr ih => exact .mk kind text nv kv names kids css hk (hn.keep k) (hs.keep k) hl hz ih
theorem NR.len {st : St} {cs : List V} {t : Nt} (h : NR st cs t) : cs.length = 4 := by cases h; rfl
theorem NR.ones {st : St} {cs : List V} {t : Nt} (h : NR st cs t) : cs.all Qn = true := by
 cases h with
 | mk kind text nv kv names kids css hk hn hs hl hz hr => simp only [List.all_cons, hn.one, hs.one]; rfl
theorem NR.veq {st : St} {cs : List V} {t : Nt} (h : NR st cs t) : veq 1000000000 (.agg cs) (.agg cs) = true := by
 cases h with
 | mk kind text nv kv names kids css hk hn hs hl hz hr =>
  obtain ⟨h1, h2⟩ := hz
  refine Qz _ ?_
  have e1 : vsz (.int .u8 (kind : Int)) ≤ 1 := Nat.le_refl _
  have e2 : vsz (.str text) ≤ 1 := Nat.le_refl _
  simp only [vsz, JdK] at *
  omega
structure NRs (st : St) (kv : V) (css : List (List V)) (kids : List Nt) : Prop where
 s : Sv 4 st kv css
 l : css.length = kids.length
 r : ∀ i (h : i < css.length) (h' : i < kids.length), NR st css[i] kids[i]
theorem NRs.keep {st st' : St} {kv : V} {css : List (List V)} {kids : List Nt} (h : NRs st kv css kids) (k : Keep st st') : NRs st' kv css kids := ⟨h.s.keep k, h.l, fun i a b => (h.r i a b).keep k⟩
mutual
def Nt.nodes : Nt → Nat
 | .mk _ _ _ kids => Jae kids + 1
def Jae : List Nt → Nat
 | [] => 0
 | t :: l => t.nodes + Jae l
end
def JbI : List S → Nat
 | [] => 0
 | s :: l => s.n + 1 + JbI l
mutual
def Nt.mass : Nt → Nat
 | .mk _ text names kids => text.n + JbI names + JaH kids + 1
def JaH : List Nt → Nat
 | [] => 0
 | t :: l => t.mass + JaH l
end
inductive Nt.small : Nt → Prop
 | mk (kind : Nat) (text : S) (names : List S) (kids : List Nt) (ht : text.n ≤ 20000) (hn : names.length ≤ 500) (hnt : ∀ s ∈ names, s.n ≤ 1000) (hk : kids.length ≤ 500) (hks : ∀ t ∈ kids, Nt.small t) : Nt.small (.mk kind text names kids)
theorem Nt.nodes_pos (t : Nt) : 1 ≤ t.nodes := by cases t; unfold Nt.nodes; omega
theorem JcY : ∀ (l : List Nt) (i : Nat) (h : i < l.length), Jae (l.take (i + 1)) = Jae (l.take i) + l[i].nodes
 | [], i, h => by simp at h
 | t :: l, 0, _ => by simp [Jae]
 | t :: l, i + 1, h => by
  have := JcY l i (by simpa using h)
  simp only [List.take_succ_cons, Jae, this, List.getElem_cons_succ]; omega
theorem Jco : ∀ (l : List Nt) (i : Nat), Jae (l.take i) ≤ Jae l
 | [], i => by simp [Jae]
 | t :: l, 0 => by simp [Jae]
 | t :: l, i + 1 => by
  have := Jco l i
  simp only [List.take_succ_cons, Jae]; omega
theorem Jig {l : List Nt} {t : Nt} (h : t ∈ l) : t.nodes ≤ Jae l := by
 obtain ⟨i, hi, rfl⟩ := List.getElem_of_mem h
 have h1 := JcY l i hi
 have h2 := Jco l (i + 1)
 omega
theorem JfQ : ∀ {l : List Nt} {t : Nt} (_ : t ∈ l), t.mass ≤ JaH l
 | u :: l, t, h => by
  cases h with
  | head => simp only [JaH]; omega
  | tail _ h => have := JfQ h; simp only [JaH]; omega
theorem JeE : ∀ (l : List S), l.length ≤ JbI l
 | [] => by simp
 | s :: l => by have := JeE l; simp only [JbI, List.length_cons]; omega
mutual
theorem Nt.nodes_mass : ∀ t : Nt, t.nodes ≤ t.mass
 | .mk _ _ _ kids => by have := Jcd kids; simp only [Nt.nodes, Nt.mass]; omega
theorem Jcd : ∀ l : List Nt, Jae l ≤ JaH l
 | [] => by simp [Jae]
 | t :: l => by have := t.nodes_mass; have := Jcd l; simp only [Jae, JaH]; omega
end
theorem JbZ : ∀ l : List Nt, l.length ≤ Jae l
 | [] => by simp
 | t :: l => by have := t.nodes_pos; have := JbZ l; simp only [Jae, List.length_cons]; omega
theorem Jbh : Qj Tryz.prog 25 = some 4 := by kernel_rfl
theorem Jdo : Jag Tryz.prog 25 = some true := by kernel_rfl
theorem JnB : Qj Tryz.prog 23 = some 1 := by kernel_rfl
theorem JoI : Jag Tryz.prog 23 = some false := by kernel_rfl
theorem Jju : Jag Tryz.prog 22 = some false := by kernel_rfl
theorem JhC : Qj Tryz.prog 22 = some 1 := by kernel_rfl
theorem gN0 (id : Nat) : QK Tryz.prog 25 (.ptr id 0) 0 = some (.ptr id 0) := by kernel_rfl
theorem gN1 (id : Nat) : QK Tryz.prog 25 (.ptr id 0) 1 = some (.ptr id 1) := by kernel_rfl
theorem gN2 (id : Nat) : QK Tryz.prog 25 (.ptr id 0) 2 = some (.ptr id 2) := by kernel_rfl
theorem gN3 (id : Nat) : QK Tryz.prog 25 (.ptr id 0) 3 = some (.ptr id 3) := by kernel_rfl
theorem Jb (s : S) : Jab Tryz.prog 9 (.str s) = some (.int .i64 (s.n : Int)) := by simp only [Jab, Tryz.underlying9]; rfl
structure NB (st : St) (id : Nat) (cs : List V) : Prop where
 b : st.box.get id = some (.cells cs 25 true (some 0))
 lt : id < st.ctr
theorem NB.keep {st st' : St} {id : Nat} {cs : List V} (h : NB st id cs) (k : Keep st st') : NB st' id cs := ⟨by rw [k.box id h.lt]; exact h.b, Nat.lt_of_lt_of_le h.lt k.ctr⟩
theorem NB.new {st : St} {cs : List V} : NB (Q4 st cs 25) st.ctr cs := ⟨QF .., Nat.lt_succ_self _⟩
structure NLd (st : St) (id : Nat) (kind : Nat) (text : S) (nv kv : V) : Prop where
 l0 : Qe Tryz.prog st 5 (.ptr id 0) = some (.int .u8 (kind : Int))
 l1 : Qe Tryz.prog st 9 (.ptr id 1) = some (.str text)
 l2 : Qe Tryz.prog st 22 (.ptr id 2) = some nv
 l3 : Qe Tryz.prog st 23 (.ptr id 3) = some kv
 l : Qe Tryz.prog st 25 (.ptr id 0) = some (.agg [.int .u8 (kind : Int), .str text, nv, kv])
set_option maxRecDepth 100000 in
theorem NB.ld {st : St} {id : Nat} {kind : Nat} {text : S} {nv kv : V} (h : NB st id [.int .u8 (kind : Int), .str text, nv, kv]) : NLd st id kind text nv kv := by
 have hb := h.b
 exact ⟨Qd (off := 0) a5 z5 hb rfl, Qd (off := 1) a9 z9 hb rfl, Qd (off := 2) Jju JhC hb rfl, Qd (off := 3) JoI JnB hb rfl, by
  simp only [Qe, hb, Jbp, Jdo, Jbh]; rfl⟩
def Jom (t : Nt) (r : Int) : Prop := 1 ≤ r ∧ r ≤ 1000 * (t.nodes : Int) + (t.mass : Int) ∧ (r ≤ 500 → t.small ∧ (t.nodes : Int) ≤ r)
def JlT (t : Nt) (v : V) : Prop := ∃ r : Int, v = .int .i64 r ∧ Jom t r
theorem Jjv {p : Nt → Prop} {l : List Nt} {i : Nat} (h : ∀ j (h : j < l.length), j < i → p l[j]) (hi : l.length ≤ i) : ∀ t ∈ l, p t := fun t ht => by
 obtain ⟨j, hj, rfl⟩ := List.getElem_of_mem ht
 exact h j hj (by omega)
theorem Jjw {p : S → Prop} {l : List S} {i : Nat} (h : ∀ j (h : j < l.length), j < i → p l[j]) (hi : l.length ≤ i) : ∀ t ∈ l, p t := fun t ht => by
 obtain ⟨j, hj, rfl⟩ := List.getElem_of_mem ht
 exact h j hj (by omega)
theorem JfR : ∀ (l : List Nt) (i : Nat) (h : i < l.length), JaH (l.take (i + 1)) = JaH (l.take i) + l[i].mass
 | [], i, h => by simp at h
 | t :: l, 0, _ => by simp [JaH]
 | t :: l, i + 1, h => by
  have := JfR l i (by simpa using h)
  simp only [List.take_succ_cons, JaH, this, List.getElem_cons_succ]; omega
theorem JfS : ∀ (l : List Nt) (i : Nat), JaH (l.take i) ≤ JaH l
 | [], i => by simp [JaH]
 | t :: l, 0 => by simp [JaH]
 | t :: l, i + 1 => by
  have := JfS l i
  simp only [List.take_succ_cons, JaH]; omega
variable [Memo] [NY]
def Jon [Memo] (gl : Gl) (t : Nt) : Prop := ∀ (st : St) (cs : List V), NR st cs t → Says Tryz.prog gl 6 [.agg cs] st fun v st' => JlT t v ∧ Keep st st'
set_option maxHeartbeats 4000000 in
set_option maxRecDepth 100000 in
theorem JkX (gl : Gl) (st : St) (kind : Nat) (text : S) (nv kv : V) (names : List S) (kids : List Nt) (css : List (List V)) (_hk : kind < 256) (hn : Vw st nv names) (hkv : NRs st kv css kids) (hm : (Nt.mk kind text names kids).mass ≤ 1000000000) (ih : ∀ t ∈ kids, Jon gl t) :
  Says Tryz.prog gl 6 [.agg [.int .u8 (kind : Int), .str text, nv, kv]] st (fun v st' => JlT (Nt.mk kind text names kids) v ∧ Keep st st') := by
 refine JS (NY.no _ rfl rfl rfl _ _) Tryz.func6 rfl (by kernel_rfl) fun R hR K gr gn => ?_
 generalize hfr : Jx gl [.agg [.int .u8 (kind : Int), .str text, nv, kv]] = fr
 have hF : Fs gl [(0, .agg [.int .u8 (kind : Int), .str text, nv, kv])] fr := by subst hfr; simp [Fs]
 simp only [Fs] at hF
 clear hfr
 have ho : ([.int .u8 (kind : Int), .str text, nv, kv] : List V).all Qn = true := by simp only [List.all_cons, hn.one, hkv.s.one]; rfl
 generalize hcs : ([.int .u8 (kind : Int), .str text, nv, kv] : List V) = cs at ho hF
 have kq := JJ st cs 25
 have hb := Qc st cs 25
 have hT := NB.new (st := st) (cs := cs)
 generalize Q4 st cs 25 = q at kq hb hT
 rw [← hcs] at hT
 have hn := hn.keep kq
 have hkv := hkv.keep kq
 have l1 := hT.ld.l1
 have l2 := hT.ld.l2
 have l3 := hT.ld.l3
 have ln := hn.len Tryz.underlying22
 have lk := hkv.s.len Tryz.underlying23
 rw [hkv.l] at lk
 have hnn : (Nt.mk kind text names kids).nodes = Jae kids + 1 := by simp only [Nt.nodes]
 have hmm : (Nt.mk kind text names kids).mass = text.n + JbI names + JaH kids + 1 := by simp only [Nt.mass]
 have hsl := JeE names
 have hkl := JbZ kids
 have hnm := Jcd kids
 have hbig : JlT (Nt.mk kind text names kids) (.int .i64 1000) := ⟨1000, rfl, by omega, by rw [hnn]; omega, fun h => by omega⟩
 obtain ⟨d, hd⟩ : ∃ d : Nat, d = text.n / 100 := ⟨_, rfl⟩
 have eq1 : ∀ kk, Jn Tryz.prog kk .quo 3 (.int .i64 (text.n : Int)) (.int .i64 100) = some (.int .i64 (d : Int)) := fun kk => by
  rw [Jd5 (by omega), Int.tdiv_eq_ediv_of_nonneg (by omega), Jr (by omega) (by omega), show (text.n : Int) / 100 = (d : Int) by omega]
 have gt1 : ∀ kk, Jn Tryz.prog kk .gtr 3 (.int .i64 (names.length : Int)) (.int .i64 500) = some (.bool (decide (500 < names.length))) := fun kk => JO
 have gt2 : ∀ kk, Jn Tryz.prog kk .gtr 3 (.int .i64 (kids.length : Int)) (.int .i64 500) = some (.bool (decide (500 < kids.length))) := fun kk => JO
 have gt3 : ∀ kk, Jn Tryz.prog kk .gtr 3 (.int .i64 (text.n : Int)) (.int .i64 20000) = some (.bool (decide (20000 < text.n))) := fun kk => JO
 obtain ⟨A, hA⟩ : ∃ b, decide (500 < names.length) = b := ⟨_, rfl⟩
 obtain ⟨B, hB⟩ : ∃ b, decide (500 < kids.length) = b := ⟨_, rfl⟩
 obtain ⟨C, hC⟩ : ∃ b, decide (20000 < text.n) = b := ⟨_, rfl⟩
 rw [hA] at gt1
 rw [hB] at gt2
 rw [hC] at gt3
 refine Ks_ (Ka_ (gs := [none, none]) fun K1 gK => ?_)
 simp (disch := omega) [hF, Ja, ho, hb]
 refine gK _ _ (Ks_ (Ka_ (gs := [none, none, none, none, none, none]) fun K1 gK => ?_))
 simp (disch := omega) [Jb, gN1, l1, eq1]
 refine gK _ _ (Ks_ (Ks_ (Ka_ (gs := [none, none, none, none, none, some (some 15, false), some (some 15, false), some (some 15, false), some (some 15, false), none, none, some (some 21, false), some (some 21, false), some (some 21, false), some (some 21, false), none]) fun K1 gK => ?_)))
 refine OkG.cutK 10 (fun fr st' => Fs gl [(1, .ptr st.ctr 0), (3, .int .i64 (1 + (d : Int))), (20, .bool (A || B))] fr ∧ q = st') (by kernel_rfl) ?_ ?_
 ·as_aux_lemma =>
  intro Kc gKc
  simp only [List.take]
  cases A with
  | true =>
   simp (disch := omega) [gN2, l2, ln, gt1]
   exact gKc _ _ ⟨by simp [Fs, hF], rfl⟩
  | false =>
   simp (disch := omega) [gN2, gN3, l2, l3, ln, lk, gt1, gt2]
   exact gKc _ _ ⟨by simp [Fs, hF], rfl⟩
 ·as_aux_lemma =>
  clear hF
  rintro fr st' ⟨hF, rfl⟩
  simp only [Fs] at hF
  simp only [List.drop]
  obtain ⟨B1, hB1⟩ : ∃ b, (A || B) = b := ⟨_, rfl⟩
  rw [hB1] at hF
  cases B1 with
  | true =>
   simp (disch := omega) [hF]
   refine gK _ _ (Kt_ (by simp (disch := omega) []) (Ks_ (Ka_ (gs := [none]) fun K1 gK => ?_)))
   simp (disch := omega) []
   refine gK _ _ (Kq_ (gr _ _ ?_))
   simp [JC, Tryz.f6, hF]
   refine hR _ _ ?_
   exact ⟨hbig, kq⟩
  | false =>
   cases C with
   | true =>
    simp (disch := omega) [hF, Jb, gN1, l1, gt3]
    refine gK _ _ (Kt_ (by simp (disch := omega) []) (Ks_ (Ka_ (gs := [none]) fun K1 gK => ?_)))
    simp (disch := omega) []
    refine gK _ _ (Kq_ (gr _ _ ?_))
    simp [JC, Tryz.f6, hF]
    refine hR _ _ ?_
    exact ⟨hbig, kq⟩
   | false =>
    have hAB : A = false ∧ B = false := by cases A <;> cases B <;> simp at hB1 ⊢
    rw [hAB.1] at hA
    rw [hAB.2] at hB
    have hA' : names.length ≤ 500 := by have := of_decide_eq_false hA; omega
    have hB' : kids.length ≤ 500 := by have := of_decide_eq_false hB; omega
    have hC' : text.n ≤ 20000 := by have := of_decide_eq_false hC; omega
    clear hA hB hC
    simp (disch := omega) [hF, Jb, gN1, l1, gt3]
    refine gK _ _ (Kf_ (by simp (disch := omega) []) (Kk_ (Ks_ (Ks_ (Ka_ (gs := [none]) fun K1 gK => ?_)))))
    simp (disch := omega) []
    refine gK _ _ ?_
    refine Kl_ (names.length) (fun i fr st' => Fs gl [(1, .ptr st.ctr 0), (3, .int .i64 (1 + (d : Int))), (4, .int .i64 (i : Int))] fr ∧ i ≤ names.length ∧ (∀ j (h : j < names.length), j < i → names[j].n ≤ 1000) ∧ q = st') (0) (fun fr st' => Fs gl [(1, .ptr st.ctr 0), (3, .int .i64 (1 + (d : Int)))] fr ∧ (∀ s ∈ names, s.n ≤ 1000) ∧ q = st') ?_ ?_ ?_ ?_
    ·exact ⟨by simp [Fs, hF], Nat.zero_le _, fun j _ hj => absurd hj (Nat.not_lt_zero j), rfl⟩
    ·rintro i fr st' ⟨_, hi, hN, rfl⟩
     omega
    ·as_aux_lemma =>
     clear hF
     rintro i fr st' ⟨hF, hi, hN, rfl⟩ K1 gk1 gx1 go1
     simp only [Fs] at hF
     have gr1 := fun fr st h => go1 AE.ret fr st trivial (gr fr st h)
     have m4 := hT.ld.l2
     refine Ks_ (Ks_ (Ka_ (gs := [none, none, none, none, none]) fun K1 gK => ?_))
     simp (disch := omega) [hF, gN2, ln, m4]
     refine gK _ _ ?_
     by_cases hlt : i < names.length
     ·
      refine Kt_ (by simp (disch := omega) [hlt]) ?_
      have hxi := hn.ix Tryz.underlying22 z9 (k := .i64) (a := (i : Int)) (by omega) (by omega)
      have hxd := hn.ld z9 a9 hlt
      refine Kk_ (Ks_ ?_)
      refine Kb_ fun K2 gn2 gx2 go2 => ?_
      have gr2 := fun fr st h => go2 AE.ret fr st trivial (gr1 fr st h)
      refine Ks_ (Ka_ (gs := [none, none, none, none, none, none, none]) fun K1 gK => ?_)
      simp (disch := omega) [hF, Jb, gN2, m4, hlt, hxi, hxd]
      refine gK _ _ ?_
      by_cases h3 : 1000 < names[i].n
      ·
       refine Kt_ (by simp (disch := omega) [h3]) (Ks_ (Ka_ (gs := [none]) fun K1 gK => ?_))
       simp (disch := omega) [h3]
       refine gK _ _ (Kq_ (gr2 _ _ ?_))
       simp [JC, Tryz.f6, hF]
       refine hR _ _ ?_
       exact ⟨hbig, kq⟩
      ·
       refine Kf_ (by simp (disch := omega) [h3]) (Kk_ (gn2 _ _ (Ka_ (gs := [none, none, none]) fun K1 gK => ?_)))
       simp (disch := omega) [hF, h3]
       refine gK _ _ ?_
       refine gk1 (i + 1) _ _ (by omega) ⟨by simp [Fs, hF], by omega, fun j hj hji => by by_cases he : j = i; (subst he; omega); exact hN j hj (by omega), rfl⟩
     ·
      refine Kf_ (by simp (disch := omega) [hlt]) ?_
      exact Kx_ (gx1 _ _ ⟨by simp [Fs, hF, hlt], Jjw hN (by omega), rfl⟩)
    ·as_aux_lemma =>
     clear hF
     rintro fr st' ⟨hF, hN, rfl⟩
     simp only [Fs] at hF
     refine Ks_ (Ks_ (Ka_ (gs := [none]) fun K1 gK => ?_))
     simp (disch := omega) []
     refine gK _ _ ?_
     refine Kl_ (kids.length) (fun i fr st' => ∃ (r : Int), Fs gl [(1, .ptr st.ctr 0), (3, .int .i64 r), (5, .int .i64 (i : Int))] fr ∧ i ≤ kids.length ∧ (1 ≤ r ∧ r ≤ 1000 * (Jae (kids.take i) : Int) + (JaH (kids.take i) : Int) + 1 + (d : Int)) ∧ (r ≤ 500 → (∀ j (h : j < kids.length), j < i → kids[j].small) ∧ (Jae (kids.take i) : Int) + 1 ≤ r) ∧ Keep q st') (0) (fun fr st' => ∃ (r : Int), Fs gl [(3, .int .i64 r)] fr ∧ Jom (Nt.mk kind text names kids) r ∧ Keep q st') ?_ ?_ ?_ ?_
     ·exact ⟨1 + (d : Int), by simp [Fs, hF], Nat.zero_le _, by (constructor <;> omega), fun _ => ⟨fun j _ hj => absurd hj (Nat.not_lt_zero j), by simp [Jae]; omega⟩, .refl _⟩
     ·rintro i fr st' ⟨r, _, hi, hr, hS, hkq⟩
      omega
     ·as_aux_lemma =>
      clear hF
      rintro i fr st' ⟨r, hF, hi, hr, hS, hkq⟩ K3 gk3 gx3 go3
      simp only [Fs] at hF
      have hT1 := hT.keep hkq
      have m5 := hT1.ld.l3
      have htk := Jco kids i
      have htm := JfS kids i
      have gr : ∀ kk, Jn Tryz.prog kk .leq 3 (.int .i64 r) (.int .i64 500) = some (.bool (decide (r ≤ 500))) := fun kk => JaZ
      have gi : ∀ kk, Jn Tryz.prog kk .lss 3 (.int .i64 (i : Int)) (.int .i64 (kids.length : Int)) = some (.bool (decide (i < kids.length))) := fun kk => J3
      obtain ⟨D0, hD0⟩ : ∃ b, decide (i < kids.length) = b := ⟨_, rfl⟩
      rw [hD0] at gi
      cases D0 with
      | true =>
       have hlt : i < kids.length := of_decide_eq_true hD0
       refine Ks_ (Ks_ (Ka_ (gs := [none, none, none, none, none, none, some (some 46, true), some (some 46, true), none]) fun K1 gK => ?_))
       simp (disch := omega) [hF, gN3, lk, m5, gr, gi]
       refine gK _ _ ?_
       by_cases h200 : r ≤ 500
       ·
        refine Kt_ (by simp (disch := omega) [h200]) ?_
        have hkv1 := hkv.keep hkq
        have hls : i < css.length := by rw [hkv1.l]; exact hlt
        have hix := hkv1.s.ix Tryz.underlying23 Jbh (k := .i64) (a := (i : Int)) (by omega) (by omega)
        have hld := hkv1.s.ld Jbh Jdo hls
        obtain ⟨v, s1, hc, ⟨r1, rfl, hr1⟩, hk1⟩ := Says.use (ih _ (List.getElem_mem hlt) st' _ (hkv1.r i hls hlt))
        obtain ⟨p1, p2, p3⟩ := hr1
        have htk1 := JcY kids i hlt
        have htk2 := Jco kids (i + 1)
        have htm1 := JfR kids i hlt
        have htm2 := JfS kids (i + 1)
        refine Kk_ (Ks_ ?_)
        refine Kb_ fun K4 gn4 gx4 go4 => ?_
        refine Ka_ (gs := [none, none, none, none, none, none, none, none, none]) fun K1 gK => ?_
        simp (disch := omega) [hF, gN3, m5, h200, hix, hld, hc]
        refine gK _ _ (gn4 _ _ (Ka_ (gs := [none, none, none]) fun K1 gK => ?_))
        simp (disch := omega) [hF]
        refine gK _ _ ?_
        refine gk3 (i + 1) _ _ (by omega) ⟨r + r1, by simp [Fs, hF], by omega, by (constructor <;> omega), fun h => by (obtain ⟨s1, s2⟩ := hS h200; obtain ⟨s3, s4⟩ := p3 (by omega); exact ⟨fun j hj hji => by by_cases he : j = i; (subst he; exact s3); exact s1 j hj (by omega), by omega⟩), hkq.trans hk1⟩
       ·
        refine Kf_ (by simp (disch := omega) [h200]) ?_
        exact Kx_ (gx3 _ _ ⟨r, by simp [Fs, hF, h200], ⟨hr.1, by rw [hnn, hmm]; omega, fun h => absurd h h200⟩, hkq⟩)
      | false =>
       have hge : kids.length ≤ i := by have := of_decide_eq_false hD0; omega
       rw [List.take_of_length_le hge] at hS hr
       refine Ks_ (Ks_ (Ka_ (gs := [none, none, none, none, none, none, some (some 46, true), some (some 46, true), none]) fun K1 gK => ?_))
       simp (disch := omega) [hF, gN3, lk, m5, gi]
       refine gK _ _ (Kf_ (by simp (disch := omega) []) ?_)
       exact Kx_ (gx3 _ _ ⟨r, by simp [Fs, hF], ⟨hr.1, by rw [hnn, hmm]; omega, fun h => ⟨.mk _ _ _ _ hC' hA' hN hB' (Jjv (hS h).1 hge), by rw [hnn]; have := (hS h).2; omega⟩⟩, hkq⟩)
     ·as_aux_lemma =>
      clear hF
      rintro fr st' ⟨r, hF, hr, hkq⟩
      simp only [Fs] at hF
      refine Ks_ (Ka_ (gs := [none, none]) fun K1 gK => ?_)
      simp (disch := omega) [hF]
      refine gK _ _ (Kq_ (gr _ _ ?_))
      simp [JC, Tryz.f6, hF]
      refine hR _ _ ?_
      exact ⟨⟨r, rfl, hr⟩, kq.trans hkq⟩
theorem JnC (gl : Gl) : ∀ t : Nt, t.mass ≤ 1000000000 → Jon gl t := Nt.ind fun kind text names kids ih hm st cs h => by
 cases h with
 | mk kind text nv kv names kids css hk hn hs hl hz hr =>
  refine JkX gl st kind text nv kv names kids css hk hn ⟨hs, hl, hr⟩ hm fun t ht => ih t ht ?_
  have := JfQ ht
  simp only [Nt.mass] at hm
  omega
end Go.Vm
namespace Go.Vm
open Go Go.Proofs Go.Pa
attribute [local simp] OkS Qi OkG Qh Qp OkD JY Qr JI Jm Jq vop Js JB ev evs toV Jl Fr.dsTo Fr.glTo Fr.toNone Ji Jj Jk Qk QL Jd JD Jv V.undef JW JM J7 JX J3 J9 J8 Qa JH J4 J5 JZ JO Qb Jt Ju Jw Jz JE Jr JL JN JK Qq
theorem JbJ {l : List S} {i : Nat} (h : i < l.length) : l.getD i ⟨0, 0⟩ = l[i] := by rw [List.getD_eq_getElem?_getD, List.getElem?_eq_getElem h]; rfl
theorem JlU {l : List S} {i : Nat} (h : i < l.length) : Jdu l i = (!Jbt l[i] || (decide (0 < i) && leS l[i] (l.getD (i - 1) ⟨0, 0⟩))) := by unfold Jdu; rw [JbJ h]
mutual
def QA : Nt → Bool
 | .mk kind text names kids => cond (decide (kind = 1) || decide (kind = 3)) (decide (names.length + kids.length = 0) && (Jdz text && (decide (kind = 1) || !decide (text.n = 0))))
  (cond (decide (kind = 2)) (decide (text.n = 0) && (decide (names.length = kids.length) && (Jaz names && Jbj kids))) false)
def Jbj : List Nt → Bool
 | [] => true
 | t :: l => QA t && Jbj l
end
theorem JcI : ∀ {l : List Nt}, Jbj l = true ↔ ∀ t ∈ l, QA t = true
 | [] => by simp [Jbj]
 | t :: l => by simp [Jbj, JcI (l := l)]
def WellTo (l : List Nt) (i : Nat) : Prop := ∀ j (h : j < l.length), j < i → QA l[j] = true
theorem JfT {l : List Nt} {i : Nat} (h : WellTo l i) (hi : l.length ≤ i) : Jbj l = true := JcI.2 fun t ht => by
 obtain ⟨j, hj, rfl⟩ := List.getElem_of_mem ht
 exact h j hj (by omega)
theorem JeF {l : List Nt} {i : Nat} (hi : i < l.length) (h : QA l[i] = false) : Jbj l = false := by
 rw [← Bool.not_eq_true]
 intro h2
 have := JcI.1 h2 _ (List.getElem_mem hi)
 rw [h] at this; cases this
theorem WellTo.step {l : List Nt} {i : Nat} (h : WellTo l i) (hi : ∀ h : i < l.length, QA l[i] = true) : WellTo l (i + 1) := fun j hj hji => by
 by_cases he : j = i
 ·subst he; exact hi hj
 ·exact h j hj (by omega)
inductive Nt.fit : Nt → Prop
 | mk (kind : Nat) (text : S) (names : List S) (kids : List Nt) (ht : text.n ≤ 100000) (hn : names.length ≤ 900000) (hk : kids.length ≤ 900000) (hs : ∀ s ∈ names, s.n ≤ 100000) (hks : ∀ t ∈ kids, Nt.fit t) : Nt.fit (.mk kind text names kids)
theorem Nt.small.fit {t : Nt} (h : t.small) : t.fit := by
 induction h with
 | mk kind text names kids ht hn hnt hk hks ih => exact .mk _ _ _ _ (by omega) (by omega) (by omega) (fun s hs => by have := hnt s hs; omega) ih
theorem JgZ : ∀ {l : List S} {s : S}, s ∈ l → s.n < JbI l
 | a :: l, s, h => by
  cases h with
  | head => simp only [JbI]; omega
  | tail _ h => have := JgZ h; simp only [JbI]; omega
theorem JlV : ∀ t : Nt, t.mass ≤ 100000 → t.fit := Nt.ind fun kind text names kids ih hm => by
 simp only [Nt.mass] at hm
 have h1 := JeE names
 have h2 := JbZ kids
 have h3 := Jcd kids
 exact .mk _ _ _ _ (by omega) (by omega) (by omega) (fun s hs => by have := JgZ hs; omega) fun t ht => ih t ht (by have := JfQ ht; omega)
variable [Memo] [NY]
def Jku [Memo] (gl : Gl) (f : Nat) (t : Nt) : Prop := ∀ (st : St) (cs : List V), NR st cs t → Says Tryz.prog gl f [.agg cs] st fun v st' => v = .bool (QA t) ∧ Keep st st'
set_option maxHeartbeats 8000000 in
set_option maxRecDepth 100000 in
theorem Jjx (gl : Gl) {aL : List V} (hh : Hits gl aL) (st : St) (kind : Nat) (text : S) (nv kv : V) (names : List S) (kids : List Nt) (css : List (List V)) (_hk : kind < 256) (hn : Vw st nv names) (hkv : NRs st kv css kids) (hnl : names.length ≤ 900000) (hkl : kids.length ≤ 900000) (ih : ∀ t ∈ kids, Jku gl 16 t) :
  Says Tryz.prog gl 16 [.agg [.int .u8 (kind : Int), .str text, nv, kv]] st (fun v st' => v = .bool (QA (Nt.mk kind text names kids)) ∧ Keep st st') := by
 refine JS (NY.no _ rfl rfl rfl _ _) Tryz.func16 rfl (by kernel_rfl) fun R hR K gr gn => ?_
 generalize hfr : Jx gl [.agg [.int .u8 (kind : Int), .str text, nv, kv]] = fr
 have hF : Fs gl [(0, .agg [.int .u8 (kind : Int), .str text, nv, kv])] fr := by subst hfr; simp [Fs]
 simp only [Fs] at hF
 clear hfr
 have ho : ([.int .u8 (kind : Int), .str text, nv, kv] : List V).all Qn = true := by simp only [List.all_cons, hn.one, hkv.s.one]; rfl
 generalize hcs : ([.int .u8 (kind : Int), .str text, nv, kv] : List V) = cs at ho hF
 have kq := JJ st cs 25
 have hb := Qc st cs 25
 have hT := NB.new (st := st) (cs := cs)
 generalize Q4 st cs 25 = q at kq hb hT
 rw [← hcs] at hT
 have hn := hn.keep kq
 have hkv := hkv.keep kq
 obtain ⟨l0, l1, l2, l3, _⟩ := hT.ld
 have ln := hn.len Tryz.underlying22
 have lk := hkv.s.len Tryz.underlying23
 rw [hkv.l] at lk
 have hc := J6 (P := Tryz.prog) (ih := ihCall (W Tryz.prog)) (gl := gl) (args := [.str text, .int .u8 ((0 : Nat) : Int)]) (st := q) (show Qx Tryz.prog 34 = true by kernel_rfl)
 rw [Q1 (JcF gl q text 0)] at hc
 have hz := Jlm text
 have hsm := Jaj text
 simp only [QA, Jdz] at hR
 rw [← hz] at hR
 obtain ⟨w, hw⟩ : ∃ w, Lib.indexByte text.toList 0 = w := ⟨_, rfl⟩
 have hc : JaM Tryz.prog (ihCall (W Tryz.prog)) gl 34 [.str text, .int .u8 0] q = .val (.int .i64 w) q := by rw [← hw]; exact hc
 rw [hw] at hR
 obtain ⟨A, hA⟩ : ∃ b, decide (names.length + kids.length = 0) = b := ⟨_, rfl⟩
 obtain ⟨N, hN⟩ : ∃ b, decide (text.n ≤ 256) = b := ⟨_, rfl⟩
 obtain ⟨Z, hZ⟩ : ∃ b, decide (w < 0) = b := ⟨_, rfl⟩
 obtain ⟨E, hE⟩ : ∃ b, decide (text.n = 0) = b := ⟨_, rfl⟩
 obtain ⟨L, hL⟩ : ∃ b, decide (names.length = kids.length) = b := ⟨_, rfl⟩
 obtain ⟨B1, hB1⟩ : ∃ b, decide (kind = 1) = b := ⟨_, rfl⟩
 obtain ⟨B3, hB3⟩ : ∃ b, decide (kind = 3) = b := ⟨_, rfl⟩
 obtain ⟨B2, hB2⟩ : ∃ b, decide (kind = 2) = b := ⟨_, rfl⟩
 have q1 : ∀ kk, Jn Tryz.prog kk .eql 5 (.int .u8 (kind : Int)) (.int .u8 1) = some (.bool B1) := fun kk => by rw [← hB1]; exact JH
 have q2 : ∀ kk, Jn Tryz.prog kk .eql 5 (.int .u8 (kind : Int)) (.int .u8 2) = some (.bool B2) := fun kk => by rw [← hB2]; exact JH
 have q3 : ∀ kk, Jn Tryz.prog kk .eql 5 (.int .u8 (kind : Int)) (.int .u8 3) = some (.bool B3) := fun kk => by rw [← hB3]; exact JH
 have qa : ∀ kk, Jn Tryz.prog kk .eql 3 (.int .i64 ((names.length : Int) + (kids.length : Int))) (.int .i64 0) = some (.bool A) := fun kk => by rw [← hA]; exact JH (a := names.length + kids.length)
 have qn : ∀ kk, Jn Tryz.prog kk .leq 3 (.int .i64 (text.n : Int)) (.int .i64 256) = some (.bool N) := fun kk => by rw [← hN]; exact JZ
 have qz : ∀ kk, Jn Tryz.prog kk .lss 3 (.int .i64 w) (.int .i64 0) = some (.bool Z) := fun kk => by rw [← hZ]; exact JaO
 have ql : ∀ kk, Jn Tryz.prog kk .neq 3 (.int .i64 (names.length : Int)) (.int .i64 (kids.length : Int)) = some (.bool (!L)) := fun kk => by rw [← hL]; exact JX
 rw [hE] at hsm
 rw [hA, hN, hZ, hE, hL, hB1, hB3, hB2] at hR
 refine Ks_ (Ka_ (gs := [none, none]) fun K1 gK => ?_)
 simp (disch := omega) [hF, Ja, ho, hb]
 refine gK _ _ (Ks_ (Ks_ (Ka_ (gs := [none, none]) fun K1 gK => ?_)))
 simp (disch := omega) [gN0, l0]
 refine gK _ _ ?_
 refine Kb_ fun K1 gn1 gx1 go1 => ?_
 have gr1 := fun fr st h => go1 AE.ret fr st trivial (gr fr st h)
 refine Ks_ (Ks_ (Ka_ (gs := [none, none]) fun K1 gK => ?_))
 simp (disch := omega) [q1]
 refine gK _ _ ?_
 refine Km_ (fun fr st' => Fs gl [(1, .ptr st.ctr 0), (6, .int .u8 (kind : Int)), (7, .bool (B1 || B3))] fr ∧ q = st') ?_ ?_
 ·as_aux_lemma =>
  intro K2 gm2 go2
  cases B1 with
  | true =>
   refine Kt_ (by simp (disch := omega) []) (Kk_ ?_)
   exact gm2 _ _ ⟨by simp [Fs, hF], rfl⟩
  | false =>
   refine Kf_ (by simp (disch := omega) []) (Ka_ (gs := [none, none]) fun K1 gK => ?_)
   simp (disch := omega) [q3]
   refine gK _ _ ?_
   exact gm2 _ _ ⟨by simp [Fs, hF], rfl⟩
 ·as_aux_lemma =>
  clear hF
  rintro fr st' ⟨hF, rfl⟩
  simp only [Fs] at hF
  obtain ⟨X, hX⟩ : ∃ b, (B1 || B3) = b := ⟨_, rfl⟩
  rw [hX] at hR hF
  cases X with
  | true =>
   refine Kt_ (by simp (disch := omega) [hF]) (Ks_ (Ka_ (gs := [none, none, none, none, none, none, none, none, none, some (some 18, true), some (some 18, true), some (some 18, true), some (some 18, true), none, none, some (some 24, true), some (some 24, true), some (some 24, true), some (some 24, true), none, none, some (some 30, true), some (some 30, true), some (some 30, true), some (some 30, true), some (some 34, false), some (some 34, false), some (some 34, false), some (some 30, true), none, none]) fun K1 gK => ?_))
   refine OkG.cutK 15 (fun fr st' => Fs gl [(1, .ptr st.ctr 0), (24, .bool (A && N))] fr ∧ q = st') (by kernel_rfl) ?_ ?_
   ·as_aux_lemma =>
    intro Kc gKc
    simp only [List.take]
    cases A with
    | true =>
     simp (disch := omega) [hF, Jb, gN1, gN2, gN3, l1, l2, l3, ln, lk, qa, qn]
     exact gKc _ _ ⟨by simp [Fs, hF], rfl⟩
    | false =>
     simp (disch := omega) [hF, gN2, gN3, l2, l3, ln, lk, qa]
     exact gKc _ _ ⟨by simp [Fs, hF], rfl⟩
   ·as_aux_lemma =>
    clear hF
    rintro fr st' ⟨hF, rfl⟩
    simp only [Fs] at hF
    simp only [List.drop]
    obtain ⟨Y, hY⟩ : ∃ b, (A && N) = b := ⟨_, rfl⟩
    rw [hY] at hF
    refine OkG.cutK 6 (fun fr st' => Fs gl [(1, .ptr st.ctr 0), (30, .bool (Y && Z))] fr ∧ q = st') (by kernel_rfl) ?_ ?_
    ·as_aux_lemma =>
     intro Kc gKc
     simp only [List.take]
     cases Y with
     | true =>
      simp (disch := omega) [hF, gN1, l1, hc, qz]
      exact gKc _ _ ⟨by simp [Fs, hF], rfl⟩
     | false =>
      simp (disch := omega) [hF]
      exact gKc _ _ ⟨by simp [Fs, hF], rfl⟩
    ·as_aux_lemma =>
     clear hF
     rintro fr st' ⟨hF, rfl⟩
     simp only [Fs] at hF
     simp only [List.drop]
     obtain ⟨Y2, hY2⟩ : ∃ b, (Y && Z) = b := ⟨_, rfl⟩
     rw [hY2] at hF
     have hz0 : (A && ((Z && N) && (B1 || !E))) = (Y2 && (B1 || !E)) := by rw [← hY2, ← hY]; cases A <;> cases Z <;> cases N <;> rfl
     simp only [cond_true, hz0] at hR
     cases Y2 with
     | true =>
      cases B1 with
      | true =>
       simp (disch := omega) [hF, gN0, l0, q1]
       refine gK _ _ (Kq_ (gr1 _ _ ?_))
       simp [JC, Tryz.f16, hF]
       refine hR _ _ ?_
       exact ⟨rfl, kq⟩
      | false =>
       simp (disch := omega) [hF, gN0, gN1, l0, l1, hsm, q1]
       refine gK _ _ (Kq_ (gr1 _ _ ?_))
       simp [JC, Tryz.f16, hF]
       refine hR _ _ ?_
       exact ⟨rfl, kq⟩
     | false =>
      simp (disch := omega) [hF]
      refine gK _ _ (Kq_ (gr1 _ _ ?_))
      simp [JC, Tryz.f16, hF]
      refine hR _ _ ?_
      exact ⟨rfl, kq⟩
  | false =>
   refine Kf_ (by simp (disch := omega) [hF]) ?_
   simp only [cond_false] at hR
   refine Ks_ (Ka_ (gs := [none, none]) fun K1 gK => ?_)
   simp (disch := omega) [hF, q2]
   refine gK _ _ ?_
   cases B2 with
   | true =>
    refine Kt_ (by simp (disch := omega) []) ?_
    cases E with
    | true =>
     refine Ks_ (Ks_ (Ka_ (gs := [none, none, none, none, some (some 45, false), some (some 45, false), some (some 45, false), some (some 45, false), some (some 45, false), some (some 45, false), some (some 45, false), none]) fun K1 gK => ?_))
     simp (disch := omega) [hF, gN1, gN2, gN3, l1, l2, l3, ln, lk, hsm, ql]
     refine gK _ _ ?_
     cases L with
     | true =>
      refine Kf_ (by simp (disch := omega) []) (Kk_ (Ks_ (Ks_ (Ka_ (gs := [none, none, none, none]) fun K1 gK => ?_))))
      simp (disch := omega) [hF, gN2, l2, ln]
      refine gK _ _ ?_
      refine Kl_ (names.length) (fun i fr st' => Fs gl [(1, .ptr st.ctr 0), (55, nv), (56, .int .i64 (names.length : Int)), (57, .int .i64 (i : Int))] fr ∧ i ≤ names.length ∧ Jd8 names i ∧ WellTo kids i ∧ Keep q st') (0) (fun fr st' => Fs gl [] fr ∧ Jaz names = true ∧ Jbj kids = true ∧ Keep q st') ?_ ?_ ?_ ?_
      ·exact ⟨by simp [Fs, hF], Nat.zero_le _, fun j hj => absurd hj (Nat.not_lt_zero j), fun j _ hj => absurd hj (Nat.not_lt_zero j), .refl _⟩
      ·rintro i fr st' ⟨_, hi, hN2, hW, hkq⟩
       omega
      ·as_aux_lemma =>
       clear hF
       rintro i fr st' ⟨hF, hi, hN2, hW, hkq⟩ K3 gk3 gx3 go3
       simp only [Fs] at hF
       have gr3 := fun fr st h => go3 AE.ret fr st trivial (gr1 fr st h)
       refine Ks_ (Ka_ (gs := [none]) fun K1 gK => ?_)
       simp (disch := omega) [hF]
       refine gK _ _ (Ks_ ?_)
       by_cases hlt : i < names.length
       ·
        refine Kt_ (by simp (disch := omega) [hlt]) ?_
        have hLk := of_decide_eq_true hL
        have hn1 := hn.keep hkq
        have hns : ∀ {k : IntKind} {a : Int}, 0 ≤ a → a < (names.length : Int) → Jo Tryz.prog 22 nv (.int k a) = some (adr 1 nv a.toNat) := fun h0 h1 => hn1.ix Tryz.underlying22 z9 h0 h1
        have hxi := hns (k := .i64) (a := (i : Int)) (by omega) (by omega)
        have hnd := hn1.ld z9 a9 hlt
        obtain ⟨v, s2, hcn, rfl, hk2⟩ := JoC gl hh st' names[i]
        have hcn := J6 (P := Tryz.prog) (ih := ihCall (W Tryz.prog)) (gl := gl) (args := [.str names[i]]) (st := st') (show Qx Tryz.prog 35 = true by kernel_rfl) ▸ Q1 hcn
        have hT2 := (hT.keep hkq).keep hk2
        have m2 := hT2.ld.l2
        have m3 := hT2.ld.l3
        have hbd := JlU hlt
        have e3 : ∀ kk, Jn Tryz.prog kk .gtr 3 (.int .i64 (i : Int)) (.int .i64 0) = some (.bool (decide (0 < i))) := fun kk => JO
        have hpr : decide (0 < i) = true → Jo Tryz.prog 22 nv (.int .i64 ((i : Int) - 1)) = some (adr 1 nv (i - 1)) ∧ Qe Tryz.prog s2 9 (adr 1 nv (i - 1)) = some (.str (names.getD (i - 1) ⟨0, 0⟩)) := fun h => by
         have h0 : 0 < i := of_decide_eq_true h
         have h1 := hns (k := .i64) (a := (i : Int) - 1) (by omega) (by omega)
         rw [show ((i : Int) - 1).toNat = i - 1 by omega] at h1
         have := (hn1.keep hk2).ld z9 a9 (i := i - 1) (by omega)
         exact ⟨h1, by rw [this, JbJ (by omega)]⟩
        obtain ⟨PN, hP⟩ : ∃ b, Jbt names[i] = b := ⟨_, rfl⟩
        obtain ⟨D0, hD0⟩ : ∃ b, decide (0 < i) = b := ⟨_, rfl⟩
        obtain ⟨Q, hQ⟩ : ∃ b, leS names[i] (names.getD (i - 1) ⟨0, 0⟩) = b := ⟨_, rfl⟩
        have eq' : ∀ kk, Jn Tryz.prog kk .leq 9 (.str names[i]) (.str (names.getD (i - 1) ⟨0, 0⟩)) = some (.bool Q) := fun kk => by rw [← hQ]; rfl
        rw [hP] at hcn
        rw [hD0] at e3 hpr
        rw [hP, hD0, hQ] at hbd
        refine Kk_ (Ks_ ?_)
        refine Kb_ fun K4 gn4 gx4 go4 => ?_
        have gr4 := fun fr st h => go4 AE.ret fr st trivial (gr3 fr st h)
        refine Ks_ (Ka_ (gs := [none, none, none, none, none]) fun K1 gK => ?_)
        simp (disch := omega) [hF, hlt, hxi, hnd]
        refine gK _ _ (Ks_ (Ka_ (gs := [none, none, none, none, some (some 65, false), some (some 65, false), some (some 65, false), some (some 68, true), some (some 68, true), some (some 68, true), some (some 68, true), some (some 68, true), some (some 68, true), some (some 68, true), some (some 68, true), some (some 65, false), none, none, some (some 79, false), some (some 79, false), some (some 79, false), some (some 79, false), some (some 79, false), some (some 79, false), some (some 79, false), none]) fun K1 gK => ?_))
        refine OkG.cutK 18 (fun fr st' => Fs gl [(1, .ptr st.ctr 0), (3, .int .i64 (i : Int)), (55, nv), (56, .int .i64 (names.length : Int)), (57, .int .i64 (i : Int)), (79, .bool (!PN || (D0 && Q)))] fr ∧ Keep q st' ∧ NRs st' kv css kids ∧ NB st' st.ctr [.int .u8 (kind : Int), .str text, nv, kv]) (by kernel_rfl) ?_ ?_
        ·as_aux_lemma =>
         intro Kc gKc
         simp only [List.take]
         have hkv2 := hkv.keep (hkq.trans hk2)
         cases PN with
         | true =>
          cases D0 with
          | true =>
           have hpi := (hpr rfl).1
           have hpl := (hpr rfl).2
           have hq2 : (names[i].less (names[i - 1]'(by omega)) || names[i].same (names[i - 1]'(by omega))) = Q := by rw [← hQ, JbJ (show i - 1 < names.length by omega)]; rfl
           simp (disch := omega) [hF, gN2, hcn, m2, e3, hpi, hpl]
           exact gKc _ _ ⟨by simp [Fs, hF, hq2], hkq.trans hk2, hkv2, hT2⟩
          | false =>
           simp (disch := omega) [hF, hcn, e3]
           exact gKc _ _ ⟨by simp [Fs, hF], hkq.trans hk2, hkv2, hT2⟩
         | false =>
          simp (disch := omega) [hF, hcn]
          exact gKc _ _ ⟨by simp [Fs, hF], hkq.trans hk2, hkv2, hT2⟩
        ·as_aux_lemma =>
         clear hF
         rintro fr st' ⟨hF, hkq2, hkv2, hT2⟩
         simp only [Fs] at hF
         simp only [List.drop]
         rw [← hbd] at hF
         have m3 := hT2.ld.l3
         have hls : i < css.length := by rw [hkv2.l]; omega
         have hlk : i < kids.length := by omega
         have hki := hkv2.s.ix Tryz.underlying23 Jbh (k := .i64) (a := (i : Int)) (by omega) (by omega)
         have hkd := hkv2.s.ld Jbh Jdo hls
         obtain ⟨v, s3, hcw, rfl, hk3⟩ := Says.use (ih _ (List.getElem_mem hlk) st' _ (hkv2.r i hls hlk))
         obtain ⟨B3, hB3⟩ : ∃ b, Jdu names i = b := ⟨_, rfl⟩
         obtain ⟨WK, hWK⟩ : ∃ b, QA kids[i] = b := ⟨_, rfl⟩
         rw [hB3] at hF
         rw [hWK] at hcw
         cases B3 with
         | true =>
          simp (disch := omega) [hF]
          refine gK _ _ (Kt_ (by simp (disch := omega) []) (Ks_ (Ka_ (gs := [none]) fun K1 gK => ?_)))
          simp (disch := omega) []
          refine gK _ _ (Kq_ (gr4 _ _ ?_))
          simp [JC, Tryz.f16, hF]
          refine hR _ _ ?_
          exact ⟨by rw [Jf2 hlt hB3]; simp, kq.trans hkq2⟩
         | false =>
          simp (disch := omega) [hF, gN3, m3, hki, hkd, hcw]
          refine gK _ _ ?_
          cases WK with
          | true =>
           refine Kf_ (by simp (disch := omega) []) (Kk_ (gn4 _ _ (Ka_ (gs := [none, none]) fun K1 gK => ?_)))
           simp (disch := omega) [hF]
           refine gK _ _ ?_
           refine gk3 (i + 1) _ _ (by omega) ⟨by simp [Fs, hF], by omega, JdH hN2 hB3, hW.step (fun _ => hWK), hkq2.trans hk3⟩
          | false =>
           refine Kt_ (by simp (disch := omega) []) (Ks_ (Ka_ (gs := [none]) fun K1 gK => ?_))
           simp (disch := omega) []
           refine gK _ _ (Kq_ (gr4 _ _ ?_))
           simp [JC, Tryz.f16, hF]
           refine hR _ _ ?_
           exact ⟨by rw [JeF hlk hWK]; simp, kq.trans (hkq2.trans hk3)⟩
       ·
        refine Kf_ (by simp (disch := omega) [hlt]) ?_
        have hLk := of_decide_eq_true hL
        exact Kx_ (gx3 _ _ ⟨by simp [Fs, hF, hlt], Jg7 hN2 (by omega), JfT hW (by omega), hkq⟩)
      ·as_aux_lemma =>
       clear hF
       rintro fr st' ⟨hF, hN2, hW, hkq⟩
       simp only [Fs] at hF
       refine Ks_ (Ka_ (gs := [none]) fun K1 gK => ?_)
       simp (disch := omega) []
       refine gK _ _ (Kq_ (gr1 _ _ ?_))
       simp [JC, Tryz.f16, hF]
       refine hR _ _ ?_
       exact ⟨by rw [hN2, hW]; rfl, kq.trans hkq⟩
     | false =>
      refine Kt_ (by simp (disch := omega) []) (Ks_ (Ka_ (gs := [none]) fun K1 gK => ?_))
      simp (disch := omega) []
      refine gK _ _ (Kq_ (gr1 _ _ ?_))
      simp [JC, Tryz.f16, hF]
      refine hR _ _ ?_
      exact ⟨rfl, kq⟩
    | false =>
     refine Ks_ (Ks_ (Ka_ (gs := [none, none, none, none, some (some 45, false), some (some 45, false), some (some 45, false), some (some 45, false), some (some 45, false), some (some 45, false), some (some 45, false), none]) fun K1 gK => ?_))
     simp (disch := omega) [hF, gN1, l1, hsm]
     refine gK _ _ (Kt_ (by simp (disch := omega) []) (Ks_ (Ka_ (gs := [none]) fun K1 gK => ?_)))
     simp (disch := omega) []
     refine gK _ _ (Kq_ (gr1 _ _ ?_))
     simp [JC, Tryz.f16, hF]
     refine hR _ _ ?_
     exact ⟨rfl, kq⟩
   | false =>
    refine Kf_ (by simp (disch := omega) []) (Kk_ (gn1 _ _ (Ks_ (Ka_ (gs := [none]) fun K1 gK => ?_))))
    simp (disch := omega) []
    refine gK _ _ (Kq_ (gr _ _ ?_))
    simp [JC, Tryz.f16, hF]
    refine hR _ _ ?_
    exact ⟨rfl, kq⟩
theorem Jih (gl : Gl) {aL : List V} (hh : Hits gl aL) : ∀ t : Nt, t.fit → Jku gl 16 t := Nt.ind fun kind text names kids ih hf st cs h => by
 cases hf with
 | mk _ _ _ _ ht hnl hkl hns hks =>
 cases h with
 | mk kind text nv kv names kids css hk hn hs hl hz hr => exact Jjx gl hh st kind text nv kv names kids css hk hn ⟨hs, hl, hr⟩ hnl hkl fun t ht => ih t ht (hks t ht)
omit [Memo] [NY] in
theorem JlW (a b : Nat) : decide (a + b = 0) = (decide (a = 0) && decide (b = 0)) := by
 rw [← Bool.decide_and]; congr 1; apply propext; omega
set_option maxHeartbeats 8000000 in
set_option maxRecDepth 100000 in
theorem Jjy (gl : Gl) (st : St) (kind : Nat) (text : S) (nv kv : V) (names : List S) (kids : List Nt) (css : List (List V)) (_hk : kind < 256) (hn : Vw st nv names) (hkv : NRs st kv css kids) (hz : vsz nv ≤ 200000000 ∧ vsz kv ≤ 200000000) (htx : text.n ≤ 100000) (hnl : names.length ≤ 900000) (_hkl : kids.length ≤ 900000) (ih : ∀ t ∈ kids, Jku gl 25 t) :
  Says Tryz.prog gl 25 [.agg [.int .u8 (kind : Int), .str text, nv, kv]] st (fun v st' => v = .bool (QA (Nt.mk kind text names kids)) ∧ Keep st st') := by
 refine JS (NY.no _ rfl rfl rfl _ _) Tryz.func25 rfl (by kernel_rfl) fun R hR K gr gn => ?_
 generalize hfr : Jx gl [.agg [.int .u8 (kind : Int), .str text, nv, kv]] = fr
 have hF : Fs gl [(0, .agg [.int .u8 (kind : Int), .str text, nv, kv])] fr := by subst hfr; simp [Fs]
 simp only [Fs] at hF
 clear hfr
 have ho : ([.int .u8 (kind : Int), .str text, nv, kv] : List V).all Qn = true := by simp only [List.all_cons, hn.one, hkv.s.one]; rfl
 generalize hcs : ([.int .u8 (kind : Int), .str text, nv, kv] : List V) = cs at ho hF
 have kq := JJ st cs 25
 have hb := Qc st cs 25
 have hT := NB.new (st := st) (cs := cs)
 generalize Q4 st cs 25 = q at kq hb hT
 rw [← hcs] at hT
 have hn := hn.keep kq
 have hkv := hkv.keep kq
 obtain ⟨l0, l1, l2, l3, _⟩ := hT.ld
 have ln := hn.len Tryz.underlying22
 have lk := hkv.s.len Tryz.underlying23
 rw [hkv.l] at lk
 obtain ⟨v, s1, hc, rfl, hs1⟩ := Says.use (Jn6 gl q text htx)
 obtain rfl : s1 = q := hs1
 have hsm := Jaj text
 simp only [QA, JlW] at hR
 obtain ⟨TB, hTB⟩ : ∃ b, Jdz text = b := ⟨_, rfl⟩
 obtain ⟨N0, hN0⟩ : ∃ b, decide (names.length = 0) = b := ⟨_, rfl⟩
 obtain ⟨J0, hJ0⟩ : ∃ b, decide (kids.length = 0) = b := ⟨_, rfl⟩
 obtain ⟨E, hE⟩ : ∃ b, decide (text.n = 0) = b := ⟨_, rfl⟩
 have hE' : decide (0 < text.n) = !E := by rw [← hE, ← decide_not]; congr 1; apply propext; omega
 obtain ⟨L, hL⟩ : ∃ b, decide (names.length = kids.length) = b := ⟨_, rfl⟩
 obtain ⟨B1, hB1⟩ : ∃ b, decide (kind = 1) = b := ⟨_, rfl⟩
 obtain ⟨B3, hB3⟩ : ∃ b, decide (kind = 3) = b := ⟨_, rfl⟩
 obtain ⟨B2, hB2⟩ : ∃ b, decide (kind = 2) = b := ⟨_, rfl⟩
 have q1 : ∀ kk, Jn Tryz.prog kk .eql 5 (.int .u8 (kind : Int)) (.int .u8 1) = some (.bool B1) := fun kk => by rw [← hB1]; exact JH
 have q2 : ∀ kk, Jn Tryz.prog kk .neq 5 (.int .u8 (kind : Int)) (.int .u8 2) = some (.bool (!B2)) := fun kk => by rw [← hB2]; exact J4
 have q3 : ∀ kk, Jn Tryz.prog kk .eql 5 (.int .u8 (kind : Int)) (.int .u8 3) = some (.bool B3) := fun kk => by rw [← hB3]; exact JH
 have qn : ∀ kk, Jn Tryz.prog kk .eql 3 (.int .i64 (names.length : Int)) (.int .i64 0) = some (.bool N0) := fun kk => by rw [← hN0]; exact JH
 have qj : ∀ kk, Jn Tryz.prog kk .eql 3 (.int .i64 (kids.length : Int)) (.int .i64 0) = some (.bool J0) := fun kk => by rw [← hJ0]; exact JH
 have qe : ∀ kk, Jn Tryz.prog kk .gtr 3 (.int .i64 (text.n : Int)) (.int .i64 0) = some (.bool (!E)) := fun kk => by rw [← hE']; exact JO
 have ql : ∀ kk, Jn Tryz.prog kk .neq 3 (.int .i64 (names.length : Int)) (.int .i64 (kids.length : Int)) = some (.bool (!L)) := fun kk => by rw [← hL]; exact JX
 rw [hE] at hsm
 rw [hTB] at hc
 rw [hTB, hN0, hJ0, hE, hL, hB1, hB3, hB2] at hR
 refine Ks_ (Ka_ (gs := [none, none]) fun K1 gK => ?_)
 simp (disch := omega) [hF, Ja, ho, hb]
 refine gK _ _ (Ks_ (Ks_ ?_))
 refine Km_ (fun fr st' => Fs gl [(1, .ptr st.ctr 0), (11, .bool (B1 || B3))] fr ∧ s1 = st') ?_ ?_
 ·as_aux_lemma =>
  intro K5 gm5 go5
  cases B1 with
  | true =>
   refine Ka_ (gs := [none, none, none, none, some (some 7, false), some (some 7, false), some (some 7, false), none]) fun K1 gK => ?_
   simp (disch := omega) [gN0, l0, q1]
   refine gK _ _ ?_
   exact gm5 _ _ ⟨by simp [Fs, hF], rfl⟩
  | false =>
   refine Ka_ (gs := [none, none, none, none, some (some 7, false), some (some 7, false), some (some 7, false), none]) fun K1 gK => ?_
   simp (disch := omega) [gN0, l0, q1, q3]
   refine gK _ _ ?_
   exact gm5 _ _ ⟨by simp [Fs, hF], rfl⟩
 ·as_aux_lemma =>
  clear hF
  rintro fr st' ⟨hF, rfl⟩
  simp only [Fs] at hF
  obtain ⟨X, hX⟩ : ∃ b, (B1 || B3) = b := ⟨_, rfl⟩
  rw [hX] at hR hF
  cases X with
  | true =>
   refine Kt_ (by simp (disch := omega) [hF]) (Ks_ (Ka_ (gs := [none, none, none, none, none, some (some 16, true), some (some 16, true), some (some 16, true), some (some 16, true), none, none, some (some 22, true), some (some 22, true), some (some 22, true), none, none, some (some 27, true), some (some 27, true), some (some 27, true), some (some 27, true), some (some 31, false), some (some 31, false), some (some 31, false), some (some 31, false), some (some 27, true), none, none]) fun K1 gK => ?_))
   refine OkG.cutK 11 (fun fr st' => Fs gl [(1, .ptr st.ctr 0), (22, .bool (N0 && J0))] fr ∧ s1 = st') (by kernel_rfl) ?_ ?_
   ·as_aux_lemma =>
    intro Kc gKc
    simp only [List.take]
    cases N0 with
    | true =>
     simp (disch := omega) [hF, gN2, gN3, l2, l3, ln, lk, qn, qj]
     exact gKc _ _ ⟨by simp [Fs, hF], rfl⟩
    | false =>
     simp (disch := omega) [hF, gN2, l2, ln, qn]
     exact gKc _ _ ⟨by simp [Fs, hF], rfl⟩
   ·as_aux_lemma =>
    clear hF
    rintro fr st' ⟨hF, rfl⟩
    simp only [Fs] at hF
    simp only [List.drop]
    obtain ⟨Y, hY⟩ : ∃ b, (N0 && J0) = b := ⟨_, rfl⟩
    rw [hY] at hF hR
    refine OkG.cutK 5 (fun fr st' => Fs gl [(1, .ptr st.ctr 0), (27, .bool (Y && TB))] fr ∧ s1 = st') (by kernel_rfl) ?_ ?_
    ·as_aux_lemma =>
     intro Kc gKc
     simp only [List.take]
     cases Y with
     | true =>
      simp (disch := omega) [hF, gN1, l1, hc]
      exact gKc _ _ ⟨by simp [Fs, hF], rfl⟩
     | false =>
      simp (disch := omega) [hF]
      exact gKc _ _ ⟨by simp [Fs, hF], rfl⟩
    ·as_aux_lemma =>
     clear hF
     rintro fr st' ⟨hF, rfl⟩
     simp only [Fs] at hF
     simp only [List.drop]
     obtain ⟨Y2, hY2⟩ : ∃ b, (Y && TB) = b := ⟨_, rfl⟩
     rw [hY2] at hF
     have hz0 : (Y && (TB && (B1 || !E))) = (Y2 && (B1 || !E)) := by rw [← hY2]; cases Y <;> cases TB <;> rfl
     simp only [cond_true, hz0] at hR
     cases Y2 with
     | true =>
      cases B1 with
      | true =>
       simp (disch := omega) [hF, gN0, l0, q1]
       refine gK _ _ (Kq_ (gr _ _ ?_))
       simp [JC, Tryz.f25, hF]
       refine hR _ _ ?_
       exact ⟨rfl, kq⟩
      | false =>
       simp (disch := omega) [hF, Jb, gN0, gN1, l0, l1, q1, qe]
       refine gK _ _ (Kq_ (gr _ _ ?_))
       simp [JC, Tryz.f25, hF]
       refine hR _ _ ?_
       exact ⟨rfl, kq⟩
     | false =>
      simp (disch := omega) [hF]
      refine gK _ _ (Kq_ (gr _ _ ?_))
      simp [JC, Tryz.f25, hF]
      refine hR _ _ ?_
      exact ⟨rfl, kq⟩
  | false =>
   refine Kf_ (by simp (disch := omega) [hF]) ?_
   simp only [cond_false] at hR
   refine Kk_ (Ks_ (Ks_ ?_))
   refine Km_ (fun fr st' => Fs gl [(1, .ptr st.ctr 0), (54, .bool (!((B2 && E) && L)))] fr ∧ s1 = st') ?_ ?_
   ·as_aux_lemma =>
    intro K6 gm6 go6
    refine Ka_ (gs := [none, none, none, none, some (some 41, false), some (some 41, false), some (some 41, false), none, none, some (some 46, false), some (some 46, false), some (some 46, false), some (some 46, false), some (some 46, false), some (some 46, false), some (some 46, false), none]) fun K1 gK => ?_
    refine OkG.cutK 9 (fun fr st' => Fs gl [(1, .ptr st.ctr 0), (46, .bool (!(B2 && E)))] fr ∧ s1 = st') (by kernel_rfl) ?_ ?_
    ·as_aux_lemma =>
     intro Kc gKc
     simp only [List.take]
     cases B2 with
     | true =>
      simp (disch := omega) [hF, gN0, gN1, l0, l1, hsm, q2]
      exact gKc _ _ ⟨by simp [Fs, hF], rfl⟩
     | false =>
      simp (disch := omega) [hF, gN0, l0, q2]
      exact gKc _ _ ⟨by simp [Fs, hF], rfl⟩
    ·as_aux_lemma =>
     clear hF
     rintro fr st' ⟨hF, rfl⟩
     simp only [Fs] at hF
     simp only [List.drop]
     obtain ⟨Y, hY⟩ : ∃ b, (B2 && E) = b := ⟨_, rfl⟩
     rw [hY] at hF
     cases Y with
     | true =>
      simp (disch := omega) [hF, gN2, gN3, l2, l3, ln, lk, ql]
      refine gK _ _ ?_
      exact gm6 _ _ ⟨by simp [Fs, hF, hY],  rfl⟩
     | false =>
      simp (disch := omega) [hF]
      refine gK _ _ ?_
      exact gm6 _ _ ⟨by simp [Fs, hF, hY],  rfl⟩
   ·as_aux_lemma =>
    clear hF
    rintro fr st' ⟨hF, rfl⟩
    simp only [Fs] at hF
    obtain ⟨Y, hY⟩ : ∃ b, (B2 && E) = b := ⟨_, rfl⟩
    rw [hY] at hF
    obtain ⟨Y2, hY2⟩ : ∃ b, (Y && L) = b := ⟨_, rfl⟩
    rw [hY2] at hF
    have hz0 : (cond B2 (E && (L && (Jaz names && Jbj kids))) false) = (Y2 && (Jaz names && Jbj kids)) := by rw [← hY2, ← hY]; cases B2 <;> cases E <;> cases L <;> rfl
    simp only [hz0] at hR
    cases Y2 with
    | true =>
     refine Kf_ (by simp (disch := omega) [hF]) ?_
     have hLk : names.length = kids.length := by
      cases L with
      | true => exact of_decide_eq_true hL
      | false => rw [Bool.and_false] at hY2; cases hY2
     refine Kk_ (Ks_ (Ks_ (Ka_ (gs := [none]) fun K1 gK => ?_)))
     simp (disch := omega) []
     refine gK _ _ ?_
     refine Kl_ (names.length) (fun i fr st' => Fs gl [(1, .ptr st.ctr 0), (3, .int .i64 (i : Int))] fr ∧ i ≤ names.length ∧ Jd8 names i ∧ WellTo kids i ∧ Keep s1 st') (0) (fun fr st' => Fs gl [] fr ∧ Jaz names = true ∧ Jbj kids = true ∧ Keep s1 st') ?_ ?_ ?_ ?_
     ·exact ⟨by simp [Fs, hF], Nat.zero_le _, fun j hj => absurd hj (Nat.not_lt_zero j), fun j _ hj => absurd hj (Nat.not_lt_zero j), .refl _⟩
     ·rintro i fr st' ⟨_, hi, hN, hM, hkq⟩
      omega
     ·as_aux_lemma =>
      clear hF
      rintro i fr st' ⟨hF, hi, hN, hM, hkq⟩ K7 gk7 gx7 go7
      simp only [Fs] at hF
      have gr7 := fun fr st h => go7 AE.ret fr st trivial (gr fr st h)
      have hT1 := hT.keep hkq
      have n4 := hT1.ld.l2
      refine Ks_ (Ks_ (Ka_ (gs := [none, none, none, none, none]) fun K1 gK => ?_))
      simp (disch := omega) [hF, gN2, ln, n4]
      refine gK _ _ ?_
      by_cases hlt : i < names.length
      ·
       refine Kt_ (by simp (disch := omega) [hlt]) ?_
       have hltk : i < kids.length := by omega
       obtain ⟨q0, hq0⟩ : ∃ q : St, ({ ctr := st'.ctr + 34, box := st'.box } : St) = q := ⟨_, rfl⟩
       have kq0 : Keep st' q0 := by subst hq0; exact ⟨by show st'.ctr ≤ st'.ctr + 34; omega, fun j _ => rfl⟩
       have hn1 := hn.keep hkq
       have hns : ∀ {k : IntKind} {a : Int}, 0 ≤ a → a < (names.length : Int) → Jo Tryz.prog 22 nv (.int k a) = some (adr 1 nv a.toNat) := fun h0 h1 => hn1.ix Tryz.underlying22 z9 h0 h1
       have hxi := hns (k := .i64) (a := (i : Int)) (by omega) (by omega)
       obtain ⟨v, s2, hcn, rfl, hk2⟩ := JoD gl q0 names[i]
       have hcn := J6 (P := Tryz.prog) (ih := ihCall (W Tryz.prog)) (gl := gl) (args := [.str names[i]]) (st := q0) (show Qx Tryz.prog 44 = true by kernel_rfl) ▸ Q1 hcn
       have hk2' : Keep st' s2 := kq0.trans hk2
       have hnd0 := (hn1.keep kq0).ld z9 a9 hlt
       have hnd2 := (hn1.keep hk2').ld z9 a9 hlt
       have hkv2 := hkv.keep (hkq.trans hk2')
       have hls : i < css.length := by rw [hkv2.l]; omega
       have hkx := hkv2.s.ix Tryz.underlying23 Jbh (k := .i64) (a := (i : Int)) (by omega) (by omega)
       have hkd2 := hkv2.s.ld Jbh Jdo hls
       have hkd0 := (hkv.keep (hkq.trans kq0)).s.ld Jbh Jdo hls
       have hkr := hkv2.r i hls hltk
       have hvt1 := hkr.veq
       obtain ⟨v, s3, hct, rfl, hk3⟩ := Says.use (ih _ (List.getElem_mem hltk) s2 _ hkr)
       have m4 := (hT1.keep kq0).ld.l2
       have m5 := (hT1.keep kq0).ld.l3
       have m4' := (hT1.keep hk2').ld.l2
       have m5' := (hT1.keep hk2').ld.l3
       have hbd := JlU hlt
       have e3 : ∀ kk, Jn Tryz.prog kk .gtr 3 (.int .i64 (i : Int)) (.int .i64 0) = some (.bool (decide (0 < i))) := fun kk => JO
       have hpr : decide (0 < i) = true → Jo Tryz.prog 22 nv (.int .i64 ((i : Int) - 1)) = some (adr 1 nv (i - 1)) ∧ Qe Tryz.prog q0 9 (adr 1 nv (i - 1)) = some (.str (names.getD (i - 1) ⟨0, 0⟩)) ∧ Qe Tryz.prog s2 9 (adr 1 nv (i - 1)) = some (.str (names.getD (i - 1) ⟨0, 0⟩)) := fun h => by
        have h0 : 0 < i := of_decide_eq_true h
        have h1 := hns (k := .i64) (a := (i : Int) - 1) (by omega) (by omega)
        rw [show ((i : Int) - 1).toNat = i - 1 by omega] at h1
        have a1 := (hn1.keep kq0).ld z9 a9 (i := i - 1) (by omega)
        have a2 := (hn1.keep hk2').ld z9 a9 (i := i - 1) (by omega)
        exact ⟨h1, by rw [a1, JbJ (by omega)], by rw [a2, JbJ (by omega)]⟩
       obtain ⟨P, hP⟩ : ∃ b, Jbt names[i] = b := ⟨_, rfl⟩
       obtain ⟨D0, hD0⟩ : ∃ b, decide (0 < i) = b := ⟨_, rfl⟩
       obtain ⟨Q, hQ⟩ : ∃ b, leS names[i] (names.getD (i - 1) ⟨0, 0⟩) = b := ⟨_, rfl⟩
       obtain ⟨Mi, hMi⟩ : ∃ b, QA kids[i] = b := ⟨_, rfl⟩
       have hvq : veq 1000000000 nv nv = true := Qz _ (by omega)
       have hvk : veq 1000000000 kv kv = true := Qz _ (by omega)
       rw [hP] at hcn
       rw [hMi] at hct
       rw [hD0] at e3 hpr
       rw [hP, hD0, hQ] at hbd
       refine Kk_ (Ks_ ?_)
       refine Kb_ fun K8 gn8 gx8 go8 => ?_
       have gr8 := fun fr st h => go8 AE.ret fr st trivial (gr7 fr st h)
       refine Ks_ (Kh_ (b := [0, 1, 0, 7, 15, 31, 63, 127, 255, 511, 1023, 2047, 4095, 2047, 16383, 32767, 2047, 67583, 2047, 264191, 985087, 2033663, 4194303, 8388607, 16777215, 33554431, 67108863, 134217727, 67108863, 536870911, 1073741823, 2147483647, 4294967295, 8589934591]) (gs := [none, none, none, none, none, none, none, none, some (some 69, false), some (some 69, false), some (some 69, false), some (some 72, true), some (some 72, true), some (some 72, true), some (some 72, true), some (some 72, true), some (some 72, true), some (some 72, true), some (some 72, true), some (some 72, true), some (some 72, true), some (some 72, true), some (some 72, true), some (some 69, false), none, none, some (some 87, false), some (some 87, false), some (some 87, false), some (some 87, false), some (some 87, false), some (some 87, false), some (some 87, false), none]) fun K1 gK => ?_)
       refine OkS.cutK 7 (fun fr st' sn => Fs gl [(1, .ptr st.ctr 0), (3, .int .i64 (i : Int)), (68, .bool (!P))] fr ∧ s2 = st' ∧ sn = [(5, s2), (34, q0)]) (by kernel_rfl) ?_ ?_
       ·as_aux_lemma =>
        intro Kc gKc
        simp only [List.take]
        simp (disch := omega) [hF, gN2, hlt, hxi, hnd0, hcn, m4, hq0, hvq]
        exact gKc _ _ _ ⟨by simp [Fs, hF], rfl, rfl⟩
       ·as_aux_lemma =>
        clear hF
        rintro fr st' sn ⟨hF, rfl, rfl⟩
        simp only [Fs] at hF
        simp only [List.drop]
        cases P with
        | true =>
         refine OkS.cutK 4 (fun fr st' sn => Fs gl [(1, .ptr st.ctr 0), (3, .int .i64 (i : Int)), (68, .bool false), (69, .bool false), (71, .bool D0), (72, .bool D0)] fr ∧ s2 = st' ∧ sn = [(5, s2), (34, q0)]) (by kernel_rfl) ?_ ?_
         ·as_aux_lemma =>
          intro Kc gKc
          simp only [List.take]
          simp (disch := omega) [hF, e3]
          exact gKc _ _ _ ⟨by simp [Fs, hF], rfl, rfl⟩
         ·as_aux_lemma =>
          clear hF
          rintro fr st' sn ⟨hF, rfl, rfl⟩
          simp only [Fs] at hF
          simp only [List.drop]
          cases D0 with
          | true =>
           have hpi := (hpr rfl).1
           have hpl := (hpr rfl).2.1
           have hpl2 := (hpr rfl).2.2
           have hq2 : (names[i].less (names[i - 1]'(by omega)) || names[i].same (names[i - 1]'(by omega))) = Q := by rw [← hQ, JbJ (show i - 1 < names.length by omega)]; rfl
           refine OkS.cutK 5 (fun fr st' sn => Fs gl [(1, .ptr st.ctr 0), (3, .int .i64 (i : Int)), (69, .bool false), (71, .bool true), (72, .bool true), (77, .str names[i])] fr ∧ s2 = st' ∧ sn = [(5, s2), (34, q0)]) (by kernel_rfl) ?_ ?_
           ·as_aux_lemma =>
            intro Kc gKc
            simp only [List.take]
            simp (disch := omega) [hF, gN2, hxi, hnd0, hnd2, m4, m4', hvq]
            exact gKc _ _ _ ⟨by simp [Fs, hF], rfl, rfl⟩
           ·as_aux_lemma =>
            clear hF
            rintro fr st' sn ⟨hF, rfl, rfl⟩
            simp only [Fs] at hF
            simp only [List.drop]
            refine OkS.cutK 9 (fun fr st' sn => Fs gl [(1, .ptr st.ctr 0), (3, .int .i64 (i : Int)), (69, .bool false), (71, .bool true), (72, .bool true), (86, .bool Q)] fr ∧ s2 = st' ∧ sn = [(5, s2), (34, q0)]) (by kernel_rfl) ?_ ?_
            ·as_aux_lemma =>
             intro Kc gKc
             simp only [List.take]
             simp (disch := omega) [hF, gN2, m4, m4', hvq, hpi, hpl, hpl2]
             exact gKc _ _ _ ⟨by simp [Fs, hF, hq2], rfl, rfl⟩
            ·as_aux_lemma =>
             clear hF
             rintro fr st' sn ⟨hF, rfl, rfl⟩
             simp only [Fs] at hF
             simp only [List.drop]
             cases Q with
             | true =>
              simp (disch := omega) [hF]
              refine gK _ _ (Kt_ (by simp (disch := omega) []) (Ks_ (Ka_ (gs := [none]) fun K1 gK => ?_)))
              simp (disch := omega) []
              refine gK _ _ (Kq_ (gr8 _ _ ?_))
              simp [JC, Tryz.f25, hF]
              refine hR _ _ ?_
              exact ⟨by rw [Jf2 hlt hbd]; simp, kq.trans (hkq.trans hk2')⟩
             | false =>
              cases Mi with
              | true =>
               simp (disch := omega) [hF, gN3, hkx, hkd0, hkd2, hct, m5, m5', hvk, hvt1]
               refine gK _ _ (Kf_ (by simp (disch := omega) []) (Kk_ (gn8 _ _ (Ka_ (gs := [none, none, none]) fun K1 gK => ?_))))
               simp (disch := omega) [hF]
               refine gK _ _ ?_
               refine gk7 (i + 1) _ _ (by omega) ⟨by simp [Fs, hF], by omega, JdH hN hbd, hM.step (fun _ => hMi), hkq.trans (hk2'.trans hk3)⟩
              | false =>
               simp (disch := omega) [hF, gN3, hkx, hkd0, hkd2, hct, m5, m5', hvk, hvt1]
               refine gK _ _ (Kt_ (by simp (disch := omega) []) (Ks_ (Ka_ (gs := [none]) fun K1 gK => ?_)))
               simp (disch := omega) []
               refine gK _ _ (Kq_ (gr8 _ _ ?_))
               simp [JC, Tryz.f25, hF]
               refine hR _ _ ?_
               exact ⟨by rw [JeF hltk hMi]; simp, kq.trans (hkq.trans (hk2'.trans hk3))⟩
          | false =>
           refine OkS.cutK 14 (fun fr st' sn => Fs gl [(1, .ptr st.ctr 0), (3, .int .i64 (i : Int)), (69, .bool false), (71, .bool false), (72, .bool false), (86, .bool false)] fr ∧ s2 = st' ∧ sn = [(5, s2), (34, q0)]) (by kernel_rfl) ?_ ?_
           ·as_aux_lemma =>
            intro Kc gKc
            simp only [List.take]
            simp (disch := omega) [hF]
            exact gKc _ _ _ ⟨by simp [Fs, hF], rfl, rfl⟩
           ·as_aux_lemma =>
            clear hF
            rintro fr st' sn ⟨hF, rfl, rfl⟩
            simp only [Fs] at hF
            simp only [List.drop]
            cases Mi with
            | true =>
             simp (disch := omega) [hF, gN3, hkx, hkd0, hkd2, hct, m5, m5', hvk, hvt1]
             refine gK _ _ (Kf_ (by simp (disch := omega) []) (Kk_ (gn8 _ _ (Ka_ (gs := [none, none, none]) fun K1 gK => ?_))))
             simp (disch := omega) [hF]
             refine gK _ _ ?_
             refine gk7 (i + 1) _ _ (by omega) ⟨by simp [Fs, hF], by omega, JdH hN hbd, hM.step (fun _ => hMi), hkq.trans (hk2'.trans hk3)⟩
            | false =>
             simp (disch := omega) [hF, gN3, hkx, hkd0, hkd2, hct, m5, m5', hvk, hvt1]
             refine gK _ _ (Kt_ (by simp (disch := omega) []) (Ks_ (Ka_ (gs := [none]) fun K1 gK => ?_)))
             simp (disch := omega) []
             refine gK _ _ (Kq_ (gr8 _ _ ?_))
             simp [JC, Tryz.f25, hF]
             refine hR _ _ ?_
             exact ⟨by rw [JeF hltk hMi]; simp, kq.trans (hkq.trans (hk2'.trans hk3))⟩
        | false =>
         refine OkS.cutK 8 (fun fr st' sn => Fs gl [(1, .ptr st.ctr 0), (3, .int .i64 (i : Int)), (68, .bool true), (69, .bool true), (72, .tup [])] fr ∧ s2 = st' ∧ sn = [(5, s2), (34, q0)]) (by kernel_rfl) ?_ ?_
         ·as_aux_lemma =>
          intro Kc gKc
          simp only [List.take]
          simp (disch := omega) [hF]
          exact gKc _ _ _ ⟨by simp [Fs, hF], rfl, rfl⟩
         ·as_aux_lemma =>
          clear hF
          rintro fr st' sn ⟨hF, rfl, rfl⟩
          simp only [Fs] at hF
          simp only [List.drop]
          refine OkS.cutK 8 (fun fr st' sn => Fs gl [(1, .ptr st.ctr 0), (3, .int .i64 (i : Int)), (69, .bool true), (72, .tup [])] fr ∧ s2 = st' ∧ sn = [(5, s2), (34, q0)]) (by kernel_rfl) ?_ ?_
          ·as_aux_lemma =>
           intro Kc gKc
           simp only [List.take]
           simp (disch := omega) [hF]
           exact gKc _ _ _ ⟨by simp [Fs, hF], rfl, rfl⟩
          ·as_aux_lemma =>
           clear hF
           rintro fr st' sn ⟨hF, rfl, rfl⟩
           simp only [Fs] at hF
           simp only [List.drop]
           refine OkS.cutK 2 (fun fr st' sn => Fs gl [(1, .ptr st.ctr 0), (3, .int .i64 (i : Int)), (86, .bool true)] fr ∧ s2 = st' ∧ sn = [(5, s2), (34, q0)]) (by kernel_rfl) ?_ ?_
           ·as_aux_lemma =>
            intro Kc gKc
            simp only [List.take]
            simp (disch := omega) [hF]
            exact gKc _ _ _ ⟨by simp [Fs, hF], rfl, rfl⟩
           ·as_aux_lemma =>
            clear hF
            rintro fr st' sn ⟨hF, rfl, rfl⟩
            simp only [Fs] at hF
            simp only [List.drop]
            simp (disch := omega) [hF]
            refine gK _ _ (Kt_ (by simp (disch := omega) []) (Ks_ (Ka_ (gs := [none]) fun K1 gK => ?_)))
            simp (disch := omega) []
            refine gK _ _ (Kq_ (gr8 _ _ ?_))
            simp [JC, Tryz.f25, hF]
            refine hR _ _ ?_
            exact ⟨by rw [Jf2 hlt hbd]; simp, kq.trans (hkq.trans hk2')⟩
      ·
       refine Kf_ (by simp (disch := omega) [hlt]) ?_
       exact Kx_ (gx7 _ _ ⟨by simp [Fs, hF, hlt], Jg7 hN (by omega), JfT hM (by omega), hkq⟩)
     ·as_aux_lemma =>
      clear hF
      rintro fr st' ⟨hF, hN, hM, hkq⟩
      simp only [Fs] at hF
      refine Ks_ (Ka_ (gs := [none]) fun K1 gK => ?_)
      simp (disch := omega) []
      refine gK _ _ (Kq_ (gr _ _ ?_))
      simp [JC, Tryz.f25, hF]
      refine hR _ _ ?_
      exact ⟨by rw [hN, hM]; rfl, kq.trans hkq⟩
    | false =>
     refine Kt_ (by simp (disch := omega) [hF]) (Ks_ (Ka_ (gs := [none]) fun K1 gK => ?_))
     simp (disch := omega) []
     refine gK _ _ (Kq_ (gr _ _ ?_))
     simp [JC, Tryz.f25, hF]
     refine hR _ _ ?_
     exact ⟨rfl, kq⟩
theorem JfU (gl : Gl) : ∀ t : Nt, t.fit → Jku gl 25 t := Nt.ind fun kind text names kids ih hf st cs h => by
 cases hf with
 | mk _ _ _ _ ht hnl hkl hns hks =>
 cases h with
 | mk kind text nv kv names kids css hk hn hs hl hz hr => exact Jjy gl st kind text nv kv names kids css hk hn ⟨hs, hl, hr⟩ hz ht hnl hkl fun t ht => ih t ht (hks t ht)
end Go.Vm
