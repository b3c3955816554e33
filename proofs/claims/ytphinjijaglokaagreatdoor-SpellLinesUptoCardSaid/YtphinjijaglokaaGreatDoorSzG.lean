/- Nodes: what they are; how great one is: by the program. -/
import Derived.Test.YtphinjijaglokaaGreatDoorSzD
import Derived.Test.YtphinjijaglokaaGreatDoorSz4
namespace Go.Vm
open Go Go.Proofs Go.Pa
attribute [local simp] OkG JX J2 OkD JH J1 Ju Jg Jh vop Ji Jp ev evs toV Jf Fr.dsTo Fr.glTo Fr.toNone Jc Jd Je JZ Qk Jb Jr Jj V.undef JG Jx JK JI JL JO JT JP JF JQ JU JM JJ JV Jo Jk Jl Js Jt Jn Jy Jz Jw J3
inductive Nt
 | mk (kind : Nat) (text : S) (names : List S) (kids : List Nt)
mutual
theorem Nt.ind {p : Nt → Prop} (h : ∀ kind text names kids, (∀ t ∈ kids, p t) → p (.mk kind text names kids)) : ∀ t : Nt, p t
 | .mk kind text names kids => h kind text names kids (Nt.inds h kids)
theorem Nt.inds {p : Nt → Prop} (h : ∀ kind text names kids, (∀ t ∈ kids, p t) → p (.mk kind text names kids)) : ∀ l : List Nt, ∀ t ∈ l, p t
 | [] => fun _ ht => by cases ht
 | u :: l => fun t ht => (List.mem_cons.1 ht).elim (fun e => e ▸ Nt.ind h u) (Nt.inds h l t)
end
inductive NR (st : St) : List V → Nt → Prop
 | mk (kind : Nat) (text : S) (nv kv : V) (names : List S) (kids : List Nt) (css : List (List V)) (hk : kind < 256) (hn : Vw st nv names) (hs : Sv 4 st kv css) (hl : css.length = kids.length) (hz : vsz nv ≤ 200000000 ∧ vsz kv ≤ 200000000)
   (hr : ∀ i (h : i < css.length) (h' : i < kids.length), NR st css[i] kids[i]) : NR st [.int .u8 (kind : Int), .str text, nv, kv] (.mk kind text names kids)
theorem NR.keep {st st' : St} {cs : List V} {t : Nt} (h : NR st cs t) (k : Keep st st') : NR st' cs t := by
 induction h with
 | mk kind text nv kv names kids css hk hn hs hl hz hr ih => exact .mk kind text nv kv names kids css hk (hn.keep k) (hs.keep k) hl hz ih
theorem NR.len {st : St} {cs : List V} {t : Nt} (h : NR st cs t) : cs.length = 4 := by cases h; rfl
theorem NR.ones {st : St} {cs : List V} {t : Nt} (h : NR st cs t) : cs.all Qb = true := by
 cases h with
 | mk kind text nv kv names kids css hk hn hs hl hz hr => simp only [List.all_cons, hn.one, hs.one]; rfl
theorem NR.veq {st : St} {cs : List V} {t : Nt} (h : NR st cs t) : veq 1000000000 (.agg cs) (.agg cs) = true := by
 cases h with
 | mk kind text nv kv names kids css hk hn hs hl hz hr =>
  obtain ⟨h1, h2⟩ := hz
  refine JaY _ ?_
  have e1 : vsz (.int .u8 (kind : Int)) ≤ 1 := Nat.le_refl _
  have e2 : vsz (.str text) ≤ 1 := Nat.le_refl _
  simp only [vsz, JcX] at *
  omega
structure NRs (st : St) (kv : V) (css : List (List V)) (kids : List Nt) : Prop where
 s : Sv 4 st kv css
 l : css.length = kids.length
 r : ∀ i (h : i < css.length) (h' : i < kids.length), NR st css[i] kids[i]
theorem NRs.keep {st st' : St} {kv : V} {css : List (List V)} {kids : List Nt} (h : NRs st kv css kids) (k : Keep st st') : NRs st' kv css kids := ⟨h.s.keep k, h.l, fun i a b => (h.r i a b).keep k⟩
mutual
def Nt.nodes : Nt → Nat
 | .mk _ _ _ kids => Qr kids + 1
def Qr : List Nt → Nat
 | [] => 0
 | t :: l => t.nodes + Qr l
end
def JcM : List S → Nat
 | [] => 0
 | s :: l => s.n + 1 + JcM l
mutual
def Nt.mass : Nt → Nat
 | .mk _ text names kids => text.n + JcM names + Jao kids + 1
def Jao : List Nt → Nat
 | [] => 0
 | t :: l => t.mass + Jao l
end
inductive Nt.small : Nt → Prop
 | mk (kind : Nat) (text : S) (names : List S) (kids : List Nt) (ht : text.n ≤ 20000) (hn : names.length ≤ 500) (hnt : ∀ s ∈ names, s.n ≤ 1000) (hk : kids.length ≤ 500) (hks : ∀ t ∈ kids, Nt.small t) : Nt.small (.mk kind text names kids)
theorem Nt.nodes_pos (t : Nt) : 1 ≤ t.nodes := by cases t; unfold Nt.nodes; omega
theorem Jbu : ∀ (l : List Nt) (i : Nat) (h : i < l.length), Qr (l.take (i + 1)) = Qr (l.take i) + l[i].nodes
 | [], i, h => by simp at h
 | t :: l, 0, _ => by simp [Qr]
 | t :: l, i + 1, h => by
  have := Jbu l i (by simpa using h)
  simp only [List.take_succ_cons, Qr, this, List.getElem_cons_succ]; omega
theorem JbH : ∀ (l : List Nt) (i : Nat), Qr (l.take i) ≤ Qr l
 | [], i => by simp [Qr]
 | t :: l, 0 => by simp [Qr]
 | t :: l, i + 1 => by
  have := JbH l i
  simp only [List.take_succ_cons, Qr]; omega
theorem Jha {l : List Nt} {t : Nt} (h : t ∈ l) : t.nodes ≤ Qr l := by
 obtain ⟨i, hi, rfl⟩ := List.getElem_of_mem h
 have h1 := Jbu l i hi
 have h2 := JbH l (i + 1)
 omega
theorem Jhb : ∀ {l : List Nt} {t : Nt} (_ : t ∈ l), t.mass ≤ Jao l
 | u :: l, t, h => by
  cases h with
  | head => simp only [Jao]; omega
  | tail _ h => have := Jhb h; simp only [Jao]; omega
theorem JfU : ∀ (l : List S), l.length ≤ JcM l
 | [] => by simp
 | s :: l => by have := JfU l; simp only [JcM, List.length_cons]; omega
mutual
theorem Nt.nodes_mass : ∀ t : Nt, t.nodes ≤ t.mass
 | .mk _ _ _ kids => by have := Jch kids; simp only [Nt.nodes, Nt.mass]; omega
theorem Jch : ∀ l : List Nt, Qr l ≤ Jao l
 | [] => by simp [Qr]
 | t :: l => by have := t.nodes_mass; have := Jch l; simp only [Qr, Jao]; omega
end
theorem JcV : ∀ l : List Nt, l.length ≤ Qr l
 | [] => by simp
 | t :: l => by have := t.nodes_pos; have := JcV l; simp only [Qr, List.length_cons]; omega
theorem Jci : J5 Tryz.prog 25 = some 4 := by kernel_rfl
theorem Jgx : QM Tryz.prog 25 = some true := by kernel_rfl
theorem JnA : J5 Tryz.prog 23 = some 1 := by kernel_rfl
theorem JnB : QM Tryz.prog 23 = some false := by kernel_rfl
theorem Jkt : QM Tryz.prog 22 = some false := by kernel_rfl
theorem JjG : J5 Tryz.prog 22 = some 1 := by kernel_rfl
theorem gN0 (id : Nat) : Qs Tryz.prog 25 (.ptr id 0) 0 = some (.ptr id 0) := by kernel_rfl
theorem gN1 (id : Nat) : Qs Tryz.prog 25 (.ptr id 0) 1 = some (.ptr id 1) := by kernel_rfl
theorem gN2 (id : Nat) : Qs Tryz.prog 25 (.ptr id 0) 2 = some (.ptr id 2) := by kernel_rfl
theorem gN3 (id : Nat) : Qs Tryz.prog 25 (.ptr id 0) 3 = some (.ptr id 3) := by kernel_rfl
theorem Jq (s : S) : QE Tryz.prog 9 (.str s) = some (.int .i64 (s.n : Int)) := by simp only [QE, Tryz.underlying9]; rfl
structure NB (st : St) (id : Nat) (cs : List V) : Prop where
 b : st.box.get id = some (.cells cs 25 true (some 0))
 lt : id < st.ctr
theorem NB.keep {st st' : St} {id : Nat} {cs : List V} (h : NB st id cs) (k : Keep st st') : NB st' id cs := ⟨by rw [k.box id h.lt]; exact h.b, Nat.lt_of_lt_of_le h.lt k.ctr⟩
theorem NB.new {st : St} {cs : List V} : NB (Jbh st cs 25) st.ctr cs := ⟨JcA .., Nat.lt_succ_self _⟩
structure NLd (st : St) (id : Nat) (kind : Nat) (text : S) (nv kv : V) : Prop where
 l0 : Qj Tryz.prog st 5 (.ptr id 0) = some (.int .u8 (kind : Int))
 l1 : Qj Tryz.prog st 9 (.ptr id 1) = some (.str text)
 l2 : Qj Tryz.prog st 22 (.ptr id 2) = some nv
 l3 : Qj Tryz.prog st 23 (.ptr id 3) = some kv
 l : Qj Tryz.prog st 25 (.ptr id 0) = some (.agg [.int .u8 (kind : Int), .str text, nv, kv])
set_option maxRecDepth 100000 in
theorem NB.ld {st : St} {id : Nat} {kind : Nat} {text : S} {nv kv : V} (h : NB st id [.int .u8 (kind : Int), .str text, nv, kv]) : NLd st id kind text nv kv := by
 have hb := h.b
 exact ⟨J9 (off := 0) a5 z5 hb rfl, J9 (off := 1) a9 z9 hb rfl, J9 (off := 2) Jkt JjG hb rfl, J9 (off := 3) JnB JnA hb rfl, by
  simp only [Qj, hb, Ja6, Jgx, Jci]; rfl⟩
def Jmk (t : Nt) (r : Int) : Prop := 1 ≤ r ∧ r ≤ 1000 * (t.nodes : Int) + (t.mass : Int) ∧ (r ≤ 500 → t.small ∧ (t.nodes : Int) ≤ r)
def Jku (t : Nt) (v : V) : Prop := ∃ r : Int, v = .int .i64 r ∧ Jmk t r
theorem Jii {p : Nt → Prop} {l : List Nt} {i : Nat} (h : ∀ j (h : j < l.length), j < i → p l[j]) (hi : l.length ≤ i) : ∀ t ∈ l, p t := fun t ht => by
 obtain ⟨j, hj, rfl⟩ := List.getElem_of_mem ht
 exact h j hj (by omega)
theorem Jij {p : S → Prop} {l : List S} {i : Nat} (h : ∀ j (h : j < l.length), j < i → p l[j]) (hi : l.length ≤ i) : ∀ t ∈ l, p t := fun t ht => by
 obtain ⟨j, hj, rfl⟩ := List.getElem_of_mem ht
 exact h j hj (by omega)
theorem JeN : ∀ (l : List Nt) (i : Nat) (h : i < l.length), Jao (l.take (i + 1)) = Jao (l.take i) + l[i].mass
 | [], i, h => by simp at h
 | t :: l, 0, _ => by simp [Jao]
 | t :: l, i + 1, h => by
  have := JeN l i (by simpa using h)
  simp only [List.take_succ_cons, Jao, this, List.getElem_cons_succ]; omega
theorem JeO : ∀ (l : List Nt) (i : Nat), Jao (l.take i) ≤ Jao l
 | [], i => by simp [Jao]
 | t :: l, 0 => by simp [Jao]
 | t :: l, i + 1 => by
  have := JeO l i
  simp only [List.take_succ_cons, Jao]; omega
variable [Memo] [NY]
def Jml [Memo] (gl : Gl) (t : Nt) : Prop := ∀ (st : St) (cs : List V), NR st cs t → Says Tryz.prog gl 6 [.agg cs] st fun v st' => Jku t v ∧ Keep st st'
set_option maxHeartbeats 4000000 in
set_option maxRecDepth 100000 in
theorem JjH (gl : Gl) (st : St) (kind : Nat) (text : S) (nv kv : V) (names : List S) (kids : List Nt) (css : List (List V)) (_hk : kind < 256) (hn : Vw st nv names) (hkv : NRs st kv css kids) (hm : (Nt.mk kind text names kids).mass ≤ 1000000000) (ih : ∀ t ∈ kids, Jml gl t) :
  Says Tryz.prog gl 6 [.agg [.int .u8 (kind : Int), .str text, nv, kv]] st (fun v st' => Jku (Nt.mk kind text names kids) v ∧ Keep st st') := by
 refine Qh (NY.no _ rfl rfl rfl _ _) Tryz.func6 rfl (by kernel_rfl) fun R hR K gr gn => ?_
 generalize hfr : JB gl [.agg [.int .u8 (kind : Int), .str text, nv, kv]] = fr
 have hF : Fs gl [(0, .agg [.int .u8 (kind : Int), .str text, nv, kv])] fr := by subst hfr; simp [Fs]
 simp only [Fs] at hF
 clear hfr
 have ho : ([.int .u8 (kind : Int), .str text, nv, kv] : List V).all Qb = true := by simp only [List.all_cons, hn.one, hkv.s.one]; rfl
 generalize hcs : ([.int .u8 (kind : Int), .str text, nv, kv] : List V) = cs at ho hF
 have kq := QQ st cs 25
 have hb := Jam st cs 25
 have hT := NB.new (st := st) (cs := cs)
 generalize Jbh st cs 25 = q at kq hb hT
 rw [← hcs] at hT
 have hn := hn.keep kq
 have hkv := hkv.keep kq
 have l1 := hT.ld.l1
 have l2 := hT.ld.l2
 have l3 := hT.ld.l3
 have ln := hn.len Tryz.underlying22
 have lk := hkv.s.len Tryz.underlying23
 rw [hkv.l] at lk
 have hnn : (Nt.mk kind text names kids).nodes = Qr kids + 1 := by simp only [Nt.nodes]
 have hmm : (Nt.mk kind text names kids).mass = text.n + JcM names + Jao kids + 1 := by simp only [Nt.mass]
 have hsl := JfU names
 have hkl := JcV kids
 have hnm := Jch kids
 have hbig : Jku (Nt.mk kind text names kids) (.int .i64 1000) := ⟨1000, rfl, by omega, by rw [hnn]; omega, fun h => by omega⟩
 obtain ⟨d, hd⟩ : ∃ d : Nat, d = text.n / 100 := ⟨_, rfl⟩
 have eq1 : ∀ kk, Jv Tryz.prog kk .quo 3 (.int .i64 (text.n : Int)) (.int .i64 100) = some (.int .i64 (d : Int)) := fun kk => by
  rw [JeT (by omega), Int.tdiv_eq_ediv_of_nonneg (by omega), Jn (by omega) (by omega), show (text.n : Int) / 100 = (d : Int) by omega]
 have gt1 : ∀ kk, Jv Tryz.prog kk .gtr 3 (.int .i64 (names.length : Int)) (.int .i64 500) = some (.bool (decide (500 < names.length))) := fun kk => JJ
 have gt2 : ∀ kk, Jv Tryz.prog kk .gtr 3 (.int .i64 (kids.length : Int)) (.int .i64 500) = some (.bool (decide (500 < kids.length))) := fun kk => JJ
 have gt3 : ∀ kk, Jv Tryz.prog kk .gtr 3 (.int .i64 (text.n : Int)) (.int .i64 20000) = some (.bool (decide (20000 < text.n))) := fun kk => JJ
 obtain ⟨A, hA⟩ : ∃ b, decide (500 < names.length) = b := ⟨_, rfl⟩
 obtain ⟨B, hB⟩ : ∃ b, decide (500 < kids.length) = b := ⟨_, rfl⟩
 obtain ⟨C, hC⟩ : ∃ b, decide (20000 < text.n) = b := ⟨_, rfl⟩
 rw [hA] at gt1
 rw [hB] at gt2
 rw [hC] at gt3
 refine Ks_ (Ka_ (gs := [none, none]) fun K1 gK => ?_)
 simp (disch := omega) [hF, Ja, ho, hb]
 refine gK _ _ (Ks_ (Ka_ (gs := [none, none, none, none, none, none]) fun K1 gK => ?_))
 simp (disch := omega) [Jq, gN1, l1, eq1]
 refine gK _ _ (Ks_ (Ks_ (Ka_ (gs := [none, none, none, none, none, some (some 15, false), some (some 15, false), some (some 15, false), some (some 15, false), none, none, some (some 21, false), some (some 21, false), some (some 21, false), some (some 21, false), none]) fun K1 gK => ?_)))
 refine OkG.cutK 10 (fun fr st' => Fs gl [(1, .ptr st.ctr 0), (3, .int .i64 (1 + (d : Int))), (20, .bool (A || B))] fr ∧ q = st') (by kernel_rfl) ?_ ?_
 ·as_aux_lemma =>
  intro Kc gKc
  simp only [List.take]
  cases A with
  | true =>
   simp (disch := omega) [gN2, l2, ln, gt1]
   exact gKc _ _ ⟨by simp [Fs, hF], rfl⟩
  | false =>
   simp (disch := omega) [gN2, gN3, l2, l3, ln, lk, gt1, gt2]
   exact gKc _ _ ⟨by simp [Fs, hF], rfl⟩
 ·as_aux_lemma =>
  clear hF
  rintro fr st' ⟨hF, rfl⟩
  simp only [Fs] at hF
  simp only [List.drop]
  obtain ⟨B1, hB1⟩ : ∃ b, (A || B) = b := ⟨_, rfl⟩
  rw [hB1] at hF
  cases B1 with
  | true =>
   simp (disch := omega) [hF]
   refine gK _ _ (Kt_ (by simp (disch := omega) []) (Ks_ (Ka_ (gs := [none]) fun K1 gK => ?_)))
   simp (disch := omega) []
   refine gK _ _ (Kq_ (gr _ _ ?_))
   simp [J7, Tryz.f6, hF]
   refine hR _ _ ?_
   exact ⟨hbig, kq⟩
  | false =>
   cases C with
   | true =>
    simp (disch := omega) [hF, Jq, gN1, l1, gt3]
    refine gK _ _ (Kt_ (by simp (disch := omega) []) (Ks_ (Ka_ (gs := [none]) fun K1 gK => ?_)))
    simp (disch := omega) []
    refine gK _ _ (Kq_ (gr _ _ ?_))
    simp [J7, Tryz.f6, hF]
    refine hR _ _ ?_
    exact ⟨hbig, kq⟩
   | false =>
    have hAB : A = false ∧ B = false := by cases A <;> cases B <;> simp at hB1 ⊢
    rw [hAB.1] at hA
    rw [hAB.2] at hB
    have hA' : names.length ≤ 500 := by have := of_decide_eq_false hA; omega
    have hB' : kids.length ≤ 500 := by have := of_decide_eq_false hB; omega
    have hC' : text.n ≤ 20000 := by have := of_decide_eq_false hC; omega
    clear hA hB hC
    simp (disch := omega) [hF, Jq, gN1, l1, gt3]
    refine gK _ _ (Kf_ (by simp (disch := omega) []) (Kk_ (Ks_ (Ks_ (Ka_ (gs := [none]) fun K1 gK => ?_)))))
    simp (disch := omega) []
    refine gK _ _ ?_
    refine Kl_ (names.length) (fun i fr st' => Fs gl [(1, .ptr st.ctr 0), (3, .int .i64 (1 + (d : Int))), (4, .int .i64 (i : Int))] fr ∧ i ≤ names.length ∧ (∀ j (h : j < names.length), j < i → names[j].n ≤ 1000) ∧ q = st') (0) (fun fr st' => Fs gl [(1, .ptr st.ctr 0), (3, .int .i64 (1 + (d : Int)))] fr ∧ (∀ s ∈ names, s.n ≤ 1000) ∧ q = st') ?_ ?_ ?_ ?_
    ·exact ⟨by simp [Fs, hF], Nat.zero_le _, fun j _ hj => absurd hj (Nat.not_lt_zero j), rfl⟩
    ·rintro i fr st' ⟨_, hi, hN, rfl⟩
     omega
    ·as_aux_lemma =>
     clear hF
     rintro i fr st' ⟨hF, hi, hN, rfl⟩ K1 gk1 gx1 go1
     simp only [Fs] at hF
     have gr1 := fun fr st h => go1 AE.ret fr st trivial (gr fr st h)
     have m4 := hT.ld.l2
     refine Ks_ (Ks_ (Ka_ (gs := [none, none, none, none, none]) fun K1 gK => ?_))
     simp (disch := omega) [hF, gN2, ln, m4]
     refine gK _ _ ?_
     by_cases hlt : i < names.length
     ·
      refine Kt_ (by simp (disch := omega) [hlt]) ?_
      have hxi := hn.ix Tryz.underlying22 z9 (k := .i64) (a := (i : Int)) (by omega) (by omega)
      have hxd := hn.ld z9 a9 hlt
      refine Kk_ (Ks_ ?_)
      refine Kb_ fun K2 gn2 gx2 go2 => ?_
      have gr2 := fun fr st h => go2 AE.ret fr st trivial (gr1 fr st h)
      refine Ks_ (Ka_ (gs := [none, none, none, none, none, none, none]) fun K1 gK => ?_)
      simp (disch := omega) [hF, Jq, gN2, m4, hlt, hxi, hxd]
      refine gK _ _ ?_
      by_cases h3 : 1000 < names[i].n
      ·
       refine Kt_ (by simp (disch := omega) [h3]) (Ks_ (Ka_ (gs := [none]) fun K1 gK => ?_))
       simp (disch := omega) [h3]
       refine gK _ _ (Kq_ (gr2 _ _ ?_))
       simp [J7, Tryz.f6, hF]
       refine hR _ _ ?_
       exact ⟨hbig, kq⟩
      ·
       refine Kf_ (by simp (disch := omega) [h3]) (Kk_ (gn2 _ _ (Ka_ (gs := [none, none, none]) fun K1 gK => ?_)))
       simp (disch := omega) [hF, h3]
       refine gK _ _ ?_
       refine gk1 (i + 1) _ _ (by omega) ⟨by simp [Fs, hF], by omega, fun j hj hji => by by_cases he : j = i; (subst he; omega); exact hN j hj (by omega), rfl⟩
     ·
      refine Kf_ (by simp (disch := omega) [hlt]) ?_
      exact Kx_ (gx1 _ _ ⟨by simp [Fs, hF, hlt], Jij hN (by omega), rfl⟩)
    ·as_aux_lemma =>
     clear hF
     rintro fr st' ⟨hF, hN, rfl⟩
     simp only [Fs] at hF
     refine Ks_ (Ks_ (Ka_ (gs := [none]) fun K1 gK => ?_))
     simp (disch := omega) []
     refine gK _ _ ?_
     refine Kl_ (kids.length) (fun i fr st' => ∃ (r : Int), Fs gl [(1, .ptr st.ctr 0), (3, .int .i64 r), (5, .int .i64 (i : Int))] fr ∧ i ≤ kids.length ∧ (1 ≤ r ∧ r ≤ 1000 * (Qr (kids.take i) : Int) + (Jao (kids.take i) : Int) + 1 + (d : Int)) ∧ (r ≤ 500 → (∀ j (h : j < kids.length), j < i → kids[j].small) ∧ (Qr (kids.take i) : Int) + 1 ≤ r) ∧ Keep q st') (0) (fun fr st' => ∃ (r : Int), Fs gl [(3, .int .i64 r)] fr ∧ Jmk (Nt.mk kind text names kids) r ∧ Keep q st') ?_ ?_ ?_ ?_
     ·exact ⟨1 + (d : Int), by simp [Fs, hF], Nat.zero_le _, by (constructor <;> omega), fun _ => ⟨fun j _ hj => absurd hj (Nat.not_lt_zero j), by simp [Qr]; omega⟩, .refl _⟩
     ·rintro i fr st' ⟨r, _, hi, hr, hS, hkq⟩
      omega
     ·as_aux_lemma =>
      clear hF
      rintro i fr st' ⟨r, hF, hi, hr, hS, hkq⟩ K3 gk3 gx3 go3
      simp only [Fs] at hF
      have hT1 := hT.keep hkq
      have m5 := hT1.ld.l3
      have htk := JbH kids i
      have htm := JeO kids i
      have gr : ∀ kk, Jv Tryz.prog kk .leq 3 (.int .i64 r) (.int .i64 500) = some (.bool (decide (r ≤ 500))) := fun kk => Jbm
      have gi : ∀ kk, Jv Tryz.prog kk .lss 3 (.int .i64 (i : Int)) (.int .i64 (kids.length : Int)) = some (.bool (decide (i < kids.length))) := fun kk => JL
      obtain ⟨D0, hD0⟩ : ∃ b, decide (i < kids.length) = b := ⟨_, rfl⟩
      rw [hD0] at gi
      cases D0 with
      | true =>
       have hlt : i < kids.length := of_decide_eq_true hD0
       refine Ks_ (Ks_ (Ka_ (gs := [none, none, none, none, none, none, some (some 46, true), some (some 46, true), none]) fun K1 gK => ?_))
       simp (disch := omega) [hF, gN3, lk, m5, gr, gi]
       refine gK _ _ ?_
       by_cases h200 : r ≤ 500
       ·
        refine Kt_ (by simp (disch := omega) [h200]) ?_
        have hkv1 := hkv.keep hkq
        have hls : i < css.length := by rw [hkv1.l]; exact hlt
        have hix := hkv1.s.ix Tryz.underlying23 Jci (k := .i64) (a := (i : Int)) (by omega) (by omega)
        have hld := hkv1.s.ld Jci Jgx hls
        obtain ⟨v, s1, hc, ⟨r1, rfl, hr1⟩, hk1⟩ := Says.use (ih _ (List.getElem_mem hlt) st' _ (hkv1.r i hls hlt))
        obtain ⟨p1, p2, p3⟩ := hr1
        have htk1 := Jbu kids i hlt
        have htk2 := JbH kids (i + 1)
        have htm1 := JeN kids i hlt
        have htm2 := JeO kids (i + 1)
        refine Kk_ (Ks_ ?_)
        refine Kb_ fun K4 gn4 gx4 go4 => ?_
        refine Ka_ (gs := [none, none, none, none, none, none, none, none, none]) fun K1 gK => ?_
        simp (disch := omega) [hF, gN3, m5, h200, hix, hld, hc]
        refine gK _ _ (gn4 _ _ (Ka_ (gs := [none, none, none]) fun K1 gK => ?_))
        simp (disch := omega) [hF]
        refine gK _ _ ?_
        refine gk3 (i + 1) _ _ (by omega) ⟨r + r1, by simp [Fs, hF], by omega, by (constructor <;> omega), fun h => by (obtain ⟨s1, s2⟩ := hS h200; obtain ⟨s3, s4⟩ := p3 (by omega); exact ⟨fun j hj hji => by by_cases he : j = i; (subst he; exact s3); exact s1 j hj (by omega), by omega⟩), hkq.trans hk1⟩
       ·
        refine Kf_ (by simp (disch := omega) [h200]) ?_
        exact Kx_ (gx3 _ _ ⟨r, by simp [Fs, hF, h200], ⟨hr.1, by rw [hnn, hmm]; omega, fun h => absurd h h200⟩, hkq⟩)
      | false =>
       have hge : kids.length ≤ i := by have := of_decide_eq_false hD0; omega
       rw [List.take_of_length_le hge] at hS hr
       refine Ks_ (Ks_ (Ka_ (gs := [none, none, none, none, none, none, some (some 46, true), some (some 46, true), none]) fun K1 gK => ?_))
       simp (disch := omega) [hF, gN3, lk, m5, gi]
       refine gK _ _ (Kf_ (by simp (disch := omega) []) ?_)
       exact Kx_ (gx3 _ _ ⟨r, by simp [Fs, hF], ⟨hr.1, by rw [hnn, hmm]; omega, fun h => ⟨.mk _ _ _ _ hC' hA' hN hB' (Jii (hS h).1 hge), by rw [hnn]; have := (hS h).2; omega⟩⟩, hkq⟩)
     ·as_aux_lemma =>
      clear hF
      rintro fr st' ⟨r, hF, hr, hkq⟩
      simp only [Fs] at hF
      refine Ks_ (Ka_ (gs := [none, none]) fun K1 gK => ?_)
      simp (disch := omega) [hF]
      refine gK _ _ (Kq_ (gr _ _ ?_))
      simp [J7, Tryz.f6, hF]
      refine hR _ _ ?_
      exact ⟨⟨r, rfl, hr⟩, kq.trans hkq⟩
theorem Jjh (gl : Gl) : ∀ t : Nt, t.mass ≤ 1000000000 → Jml gl t := Nt.ind fun kind text names kids ih hm st cs h => by
 cases h with
 | mk kind text nv kv names kids css hk hn hs hl hz hr =>
  refine JjH gl st kind text nv kv names kids css hk hn ⟨hs, hl, hr⟩ hm fun t ht => ih t ht ?_
  have := Jhb ht
  simp only [Nt.mass] at hm
  omega
end Go.Vm
namespace Go.Vm
open Go Go.Proofs Go.Pa
attribute [local simp] OkS J0 OkG JX J2 OkD JH J1 Ju Jg Jh vop Ji Jp ev evs toV Jf Fr.dsTo Fr.glTo Fr.toNone Jc Jd Je JZ Qk Jb Jr Jj V.undef JG Jx JK JI JL JO JT JP JF JQ JU JM JJ JV Jo Jk Jl Js Jt Jn Jy Jz Jw J3
theorem JeP {l : List S} {i : Nat} (h : i < l.length) : l.getD i ⟨0, 0⟩ = l[i] := by rw [List.getD_eq_getElem?_getD, List.getElem?_eq_getElem h]; rfl
theorem JmB {l : List S} {i : Nat} (h : i < l.length) : Jcd l i = (!JbW l[i] || (decide (0 < i) && leS l[i] (l.getD (i - 1) ⟨0, 0⟩))) := by unfold Jcd; rw [JeP h]
mutual
def QA : Nt → Bool
 | .mk kind text names kids => cond (decide (kind = 1) || decide (kind = 3)) (decide (names.length + kids.length = 0) && (Jlj text && (decide (kind = 1) || !decide (text.n = 0))))
  (cond (decide (kind = 2)) (decide (text.n = 0) && (decide (names.length = kids.length) && (Q7 names && Jcj kids))) false)
def Jcj : List Nt → Bool
 | [] => true
 | t :: l => QA t && Jcj l
end
theorem JbZ : ∀ {l : List Nt}, Jcj l = true ↔ ∀ t ∈ l, QA t = true
 | [] => by simp [Jcj]
 | t :: l => by simp [Jcj, JbZ (l := l)]
def WellTo (l : List Nt) (i : Nat) : Prop := ∀ j (h : j < l.length), j < i → QA l[j] = true
theorem Jik {l : List Nt} {i : Nat} (h : WellTo l i) (hi : l.length ≤ i) : Jcj l = true := JbZ.2 fun t ht => by
 obtain ⟨j, hj, rfl⟩ := List.getElem_of_mem ht
 exact h j hj (by omega)
theorem JjI {l : List Nt} {i : Nat} (hi : i < l.length) (h : QA l[i] = false) : Jcj l = false := by
 rw [← Bool.not_eq_true]
 intro h2
 have := JbZ.1 h2 _ (List.getElem_mem hi)
 rw [h] at this; cases this
theorem WellTo.step {l : List Nt} {i : Nat} (h : WellTo l i) (hi : ∀ h : i < l.length, QA l[i] = true) : WellTo l (i + 1) := fun j hj hji => by
 by_cases he : j = i
 ·subst he; exact hi hj
 ·exact h j hj (by omega)
inductive Nt.fit : Nt → Prop
 | mk (kind : Nat) (text : S) (names : List S) (kids : List Nt) (ht : text.n ≤ 100000) (hn : names.length ≤ 900000) (hk : kids.length ≤ 900000) (hs : ∀ s ∈ names, s.n ≤ 100000) (hks : ∀ t ∈ kids, Nt.fit t) : Nt.fit (.mk kind text names kids)
theorem Nt.small.fit {t : Nt} (h : t.small) : t.fit := by
 induction h with
 | mk kind text names kids ht hn hnt hk hks ih => exact .mk _ _ _ _ (by omega) (by omega) (by omega) (fun s hs => by have := hnt s hs; omega) ih
variable [Memo] [NY]
def Jmm [Memo] (gl : Gl) (f : Nat) (t : Nt) : Prop := ∀ (st : St) (cs : List V), NR st cs t → Says Tryz.prog gl f [.agg cs] st fun v st' => v = .bool (QA t) ∧ Keep st st'
set_option maxHeartbeats 8000000 in
set_option maxRecDepth 100000 in
theorem Jil (gl : Gl) {aL : List V} (hh : Hits gl aL) (st : St) (kind : Nat) (text : S) (nv kv : V) (names : List S) (kids : List Nt) (css : List (List V)) (_hk : kind < 256) (hn : Vw st nv names) (hkv : NRs st kv css kids) (hnl : names.length ≤ 900000) (hkl : kids.length ≤ 900000) (ih : ∀ t ∈ kids, Jmm gl 16 t) :
  Says Tryz.prog gl 16 [.agg [.int .u8 (kind : Int), .str text, nv, kv]] st (fun v st' => v = .bool (QA (Nt.mk kind text names kids)) ∧ Keep st st') := by
 refine Qh (NY.no _ rfl rfl rfl _ _) Tryz.func16 rfl (by kernel_rfl) fun R hR K gr gn => ?_
 generalize hfr : JB gl [.agg [.int .u8 (kind : Int), .str text, nv, kv]] = fr
 have hF : Fs gl [(0, .agg [.int .u8 (kind : Int), .str text, nv, kv])] fr := by subst hfr; simp [Fs]
 simp only [Fs] at hF
 clear hfr
 have ho : ([.int .u8 (kind : Int), .str text, nv, kv] : List V).all Qb = true := by simp only [List.all_cons, hn.one, hkv.s.one]; rfl
 generalize hcs : ([.int .u8 (kind : Int), .str text, nv, kv] : List V) = cs at ho hF
 have kq := QQ st cs 25
 have hb := Jam st cs 25
 have hT := NB.new (st := st) (cs := cs)
 generalize Jbh st cs 25 = q at kq hb hT
 rw [← hcs] at hT
 have hn := hn.keep kq
 have hkv := hkv.keep kq
 obtain ⟨l0, l1, l2, l3, _⟩ := hT.ld
 have ln := hn.len Tryz.underlying22
 have lk := hkv.s.len Tryz.underlying23
 rw [hkv.l] at lk
 have hc := JY (P := Tryz.prog) (ih := ihCall (W Tryz.prog)) (gl := gl) (args := [.str text, .int .u8 ((0 : Nat) : Int)]) (st := q) (show Qa Tryz.prog 34 = true by kernel_rfl)
 rw [QB (JbV gl q text 0)] at hc
 have hz := Jj3 text
 have hsm := JcU text
 simp only [QA, Jlj] at hR
 rw [← hz] at hR
 obtain ⟨w, hw⟩ : ∃ w, Lib.indexByte text.toList 0 = w := ⟨_, rfl⟩
 have hc : Jag Tryz.prog (ihCall (W Tryz.prog)) gl 34 [.str text, .int .u8 0] q = .val (.int .i64 w) q := by rw [← hw]; exact hc
 rw [hw] at hR
 obtain ⟨A, hA⟩ : ∃ b, decide (names.length + kids.length = 0) = b := ⟨_, rfl⟩
 obtain ⟨N, hN⟩ : ∃ b, decide (text.n ≤ 256) = b := ⟨_, rfl⟩
 obtain ⟨Z, hZ⟩ : ∃ b, decide (w < 0) = b := ⟨_, rfl⟩
 obtain ⟨E, hE⟩ : ∃ b, decide (text.n = 0) = b := ⟨_, rfl⟩
 obtain ⟨L, hL⟩ : ∃ b, decide (names.length = kids.length) = b := ⟨_, rfl⟩
 obtain ⟨B1, hB1⟩ : ∃ b, decide (kind = 1) = b := ⟨_, rfl⟩
 obtain ⟨B3, hB3⟩ : ∃ b, decide (kind = 3) = b := ⟨_, rfl⟩
 obtain ⟨B2, hB2⟩ : ∃ b, decide (kind = 2) = b := ⟨_, rfl⟩
 have q1 : ∀ kk, Jv Tryz.prog kk .eql 5 (.int .u8 (kind : Int)) (.int .u8 1) = some (.bool B1) := fun kk => by rw [← hB1]; exact JF
 have q2 : ∀ kk, Jv Tryz.prog kk .eql 5 (.int .u8 (kind : Int)) (.int .u8 2) = some (.bool B2) := fun kk => by rw [← hB2]; exact JF
 have q3 : ∀ kk, Jv Tryz.prog kk .eql 5 (.int .u8 (kind : Int)) (.int .u8 3) = some (.bool B3) := fun kk => by rw [← hB3]; exact JF
 have qa : ∀ kk, Jv Tryz.prog kk .eql 3 (.int .i64 ((names.length : Int) + (kids.length : Int))) (.int .i64 0) = some (.bool A) := fun kk => by rw [← hA]; exact JF (a := names.length + kids.length)
 have qn : ∀ kk, Jv Tryz.prog kk .leq 3 (.int .i64 (text.n : Int)) (.int .i64 256) = some (.bool N) := fun kk => by rw [← hN]; exact JM
 have qz : ∀ kk, Jv Tryz.prog kk .lss 3 (.int .i64 w) (.int .i64 0) = some (.bool Z) := fun kk => by rw [← hZ]; exact JaX
 have ql : ∀ kk, Jv Tryz.prog kk .neq 3 (.int .i64 (names.length : Int)) (.int .i64 (kids.length : Int)) = some (.bool (!L)) := fun kk => by rw [← hL]; exact JI
 rw [hE] at hsm
 rw [hA, hN, hZ, hE, hL, hB1, hB3, hB2] at hR
 refine Ks_ (Ka_ (gs := [none, none]) fun K1 gK => ?_)
 simp (disch := omega) [hF, Ja, ho, hb]
 refine gK _ _ (Ks_ (Ks_ (Ka_ (gs := [none, none]) fun K1 gK => ?_)))
 simp (disch := omega) [gN0, l0]
 refine gK _ _ ?_
 refine Kb_ fun K1 gn1 gx1 go1 => ?_
 have gr1 := fun fr st h => go1 AE.ret fr st trivial (gr fr st h)
 refine Ks_ (Ks_ (Ka_ (gs := [none, none]) fun K1 gK => ?_))
 simp (disch := omega) [q1]
 refine gK _ _ ?_
 refine Km_ (fun fr st' => Fs gl [(1, .ptr st.ctr 0), (6, .int .u8 (kind : Int)), (7, .bool (B1 || B3))] fr ∧ q = st') ?_ ?_
 ·as_aux_lemma =>
  intro K2 gm2 go2
  cases B1 with
  | true =>
   refine Kt_ (by simp (disch := omega) []) (Kk_ ?_)
   exact gm2 _ _ ⟨by simp [Fs, hF], rfl⟩
  | false =>
   refine Kf_ (by simp (disch := omega) []) (Ka_ (gs := [none, none]) fun K1 gK => ?_)
   simp (disch := omega) [q3]
   refine gK _ _ ?_
   exact gm2 _ _ ⟨by simp [Fs, hF], rfl⟩
 ·as_aux_lemma =>
  clear hF
  rintro fr st' ⟨hF, rfl⟩
  simp only [Fs] at hF
  obtain ⟨X, hX⟩ : ∃ b, (B1 || B3) = b := ⟨_, rfl⟩
  rw [hX] at hR hF
  cases X with
  | true =>
   refine Kt_ (by simp (disch := omega) [hF]) (Ks_ (Ka_ (gs := [none, none, none, none, none, none, none, none, none, some (some 18, true), some (some 18, true), some (some 18, true), some (some 18, true), none, none, some (some 24, true), some (some 24, true), some (some 24, true), some (some 24, true), none, none, some (some 30, true), some (some 30, true), some (some 30, true), some (some 30, true), some (some 34, false), some (some 34, false), some (some 34, false), some (some 30, true), none, none]) fun K1 gK => ?_))
   refine OkG.cutK 15 (fun fr st' => Fs gl [(1, .ptr st.ctr 0), (24, .bool (A && N))] fr ∧ q = st') (by kernel_rfl) ?_ ?_
   ·as_aux_lemma =>
    intro Kc gKc
    simp only [List.take]
    cases A with
    | true =>
     simp (disch := omega) [hF, Jq, gN1, gN2, gN3, l1, l2, l3, ln, lk, qa, qn]
     exact gKc _ _ ⟨by simp [Fs, hF], rfl⟩
    | false =>
     simp (disch := omega) [hF, gN2, gN3, l2, l3, ln, lk, qa]
     exact gKc _ _ ⟨by simp [Fs, hF], rfl⟩
   ·as_aux_lemma =>
    clear hF
    rintro fr st' ⟨hF, rfl⟩
    simp only [Fs] at hF
    simp only [List.drop]
    obtain ⟨Y, hY⟩ : ∃ b, (A && N) = b := ⟨_, rfl⟩
    rw [hY] at hF
    refine OkG.cutK 6 (fun fr st' => Fs gl [(1, .ptr st.ctr 0), (30, .bool (Y && Z))] fr ∧ q = st') (by kernel_rfl) ?_ ?_
    ·as_aux_lemma =>
     intro Kc gKc
     simp only [List.take]
     cases Y with
     | true =>
      simp (disch := omega) [hF, gN1, l1, hc, qz]
      exact gKc _ _ ⟨by simp [Fs, hF], rfl⟩
     | false =>
      simp (disch := omega) [hF]
      exact gKc _ _ ⟨by simp [Fs, hF], rfl⟩
    ·as_aux_lemma =>
     clear hF
     rintro fr st' ⟨hF, rfl⟩
     simp only [Fs] at hF
     simp only [List.drop]
     obtain ⟨Y2, hY2⟩ : ∃ b, (Y && Z) = b := ⟨_, rfl⟩
     rw [hY2] at hF
     have hz0 : (A && ((Z && N) && (B1 || !E))) = (Y2 && (B1 || !E)) := by rw [← hY2, ← hY]; cases A <;> cases Z <;> cases N <;> rfl
     simp only [cond_true, hz0] at hR
     cases Y2 with
     | true =>
      cases B1 with
      | true =>
       simp (disch := omega) [hF, gN0, l0, q1]
       refine gK _ _ (Kq_ (gr1 _ _ ?_))
       simp [J7, Tryz.f16, hF]
       refine hR _ _ ?_
       exact ⟨rfl, kq⟩
      | false =>
       simp (disch := omega) [hF, gN0, gN1, l0, l1, hsm, q1]
       refine gK _ _ (Kq_ (gr1 _ _ ?_))
       simp [J7, Tryz.f16, hF]
       refine hR _ _ ?_
       exact ⟨rfl, kq⟩
     | false =>
      simp (disch := omega) [hF]
      refine gK _ _ (Kq_ (gr1 _ _ ?_))
      simp [J7, Tryz.f16, hF]
      refine hR _ _ ?_
      exact ⟨rfl, kq⟩
  | false =>
   refine Kf_ (by simp (disch := omega) [hF]) ?_
   simp only [cond_false] at hR
   refine Ks_ (Ka_ (gs := [none, none]) fun K1 gK => ?_)
   simp (disch := omega) [hF, q2]
   refine gK _ _ ?_
   cases B2 with
   | true =>
    refine Kt_ (by simp (disch := omega) []) ?_
    cases E with
    | true =>
     refine Ks_ (Ks_ (Ka_ (gs := [none, none, none, none, some (some 45, false), some (some 45, false), some (some 45, false), some (some 45, false), some (some 45, false), some (some 45, false), some (some 45, false), none]) fun K1 gK => ?_))
     simp (disch := omega) [hF, gN1, gN2, gN3, l1, l2, l3, ln, lk, hsm, ql]
     refine gK _ _ ?_
     cases L with
     | true =>
      refine Kf_ (by simp (disch := omega) []) (Kk_ (Ks_ (Ks_ (Ka_ (gs := [none, none, none, none]) fun K1 gK => ?_))))
      simp (disch := omega) [hF, gN2, l2, ln]
      refine gK _ _ ?_
      refine Kl_ (names.length) (fun i fr st' => Fs gl [(1, .ptr st.ctr 0), (55, nv), (56, .int .i64 (names.length : Int)), (57, .int .i64 (i : Int))] fr ∧ i ≤ names.length ∧ Jep names i ∧ WellTo kids i ∧ Keep q st') (0) (fun fr st' => Fs gl [] fr ∧ Q7 names = true ∧ Jcj kids = true ∧ Keep q st') ?_ ?_ ?_ ?_
      ·exact ⟨by simp [Fs, hF], Nat.zero_le _, fun j hj => absurd hj (Nat.not_lt_zero j), fun j _ hj => absurd hj (Nat.not_lt_zero j), .refl _⟩
      ·rintro i fr st' ⟨_, hi, hN2, hW, hkq⟩
       omega
      ·as_aux_lemma =>
       clear hF
       rintro i fr st' ⟨hF, hi, hN2, hW, hkq⟩ K3 gk3 gx3 go3
       simp only [Fs] at hF
       have gr3 := fun fr st h => go3 AE.ret fr st trivial (gr1 fr st h)
       refine Ks_ (Ka_ (gs := [none]) fun K1 gK => ?_)
       simp (disch := omega) [hF]
       refine gK _ _ (Ks_ ?_)
       by_cases hlt : i < names.length
       ·
        refine Kt_ (by simp (disch := omega) [hlt]) ?_
        have hLk := of_decide_eq_true hL
        have hn1 := hn.keep hkq
        have hns : ∀ {k : IntKind} {a : Int}, 0 ≤ a → a < (names.length : Int) → Jm Tryz.prog 22 nv (.int k a) = some (adr 1 nv a.toNat) := fun h0 h1 => hn1.ix Tryz.underlying22 z9 h0 h1
        have hxi := hns (k := .i64) (a := (i : Int)) (by omega) (by omega)
        have hnd := hn1.ld z9 a9 hlt
        obtain ⟨v, s2, hcn, rfl, hk2⟩ := Jmv gl hh st' names[i]
        have hcn := JY (P := Tryz.prog) (ih := ihCall (W Tryz.prog)) (gl := gl) (args := [.str names[i]]) (st := st') (show Qa Tryz.prog 35 = true by kernel_rfl) ▸ QB hcn
        have hT2 := (hT.keep hkq).keep hk2
        have m2 := hT2.ld.l2
        have m3 := hT2.ld.l3
        have hbd := JmB hlt
        have e3 : ∀ kk, Jv Tryz.prog kk .gtr 3 (.int .i64 (i : Int)) (.int .i64 0) = some (.bool (decide (0 < i))) := fun kk => JJ
        have hpr : decide (0 < i) = true → Jm Tryz.prog 22 nv (.int .i64 ((i : Int) - 1)) = some (adr 1 nv (i - 1)) ∧ Qj Tryz.prog s2 9 (adr 1 nv (i - 1)) = some (.str (names.getD (i - 1) ⟨0, 0⟩)) := fun h => by
         have h0 : 0 < i := of_decide_eq_true h
         have h1 := hns (k := .i64) (a := (i : Int) - 1) (by omega) (by omega)
         rw [show ((i : Int) - 1).toNat = i - 1 by omega] at h1
         have := (hn1.keep hk2).ld z9 a9 (i := i - 1) (by omega)
         exact ⟨h1, by rw [this, JeP (by omega)]⟩
        obtain ⟨PN, hP⟩ : ∃ b, JbW names[i] = b := ⟨_, rfl⟩
        obtain ⟨D0, hD0⟩ : ∃ b, decide (0 < i) = b := ⟨_, rfl⟩
        obtain ⟨Q, hQ⟩ : ∃ b, leS names[i] (names.getD (i - 1) ⟨0, 0⟩) = b := ⟨_, rfl⟩
        have eq' : ∀ kk, Jv Tryz.prog kk .leq 9 (.str names[i]) (.str (names.getD (i - 1) ⟨0, 0⟩)) = some (.bool Q) := fun kk => by rw [← hQ]; rfl
        rw [hP] at hcn
        rw [hD0] at e3 hpr
        rw [hP, hD0, hQ] at hbd
        refine Kk_ (Ks_ ?_)
        refine Kb_ fun K4 gn4 gx4 go4 => ?_
        have gr4 := fun fr st h => go4 AE.ret fr st trivial (gr3 fr st h)
        refine Ks_ (Ka_ (gs := [none, none, none, none, none]) fun K1 gK => ?_)
        simp (disch := omega) [hF, hlt, hxi, hnd]
        refine gK _ _ (Ks_ (Ka_ (gs := [none, none, none, none, some (some 65, false), some (some 65, false), some (some 65, false), some (some 68, true), some (some 68, true), some (some 68, true), some (some 68, true), some (some 68, true), some (some 68, true), some (some 68, true), some (some 68, true), some (some 65, false), none, none, some (some 79, false), some (some 79, false), some (some 79, false), some (some 79, false), some (some 79, false), some (some 79, false), some (some 79, false), none]) fun K1 gK => ?_))
        refine OkG.cutK 18 (fun fr st' => Fs gl [(1, .ptr st.ctr 0), (3, .int .i64 (i : Int)), (55, nv), (56, .int .i64 (names.length : Int)), (57, .int .i64 (i : Int)), (79, .bool (!PN || (D0 && Q)))] fr ∧ Keep q st' ∧ NRs st' kv css kids ∧ NB st' st.ctr [.int .u8 (kind : Int), .str text, nv, kv]) (by kernel_rfl) ?_ ?_
        ·as_aux_lemma =>
         intro Kc gKc
         simp only [List.take]
         have hkv2 := hkv.keep (hkq.trans hk2)
         cases PN with
         | true =>
          cases D0 with
          | true =>
           have hpi := (hpr rfl).1
           have hpl := (hpr rfl).2
           have hq2 : (names[i].less (names[i - 1]'(by omega)) || names[i].same (names[i - 1]'(by omega))) = Q := by rw [← hQ, JeP (show i - 1 < names.length by omega)]; rfl
           simp (disch := omega) [hF, gN2, hcn, m2, e3, hpi, hpl]
           exact gKc _ _ ⟨by simp [Fs, hF, hq2], hkq.trans hk2, hkv2, hT2⟩
          | false =>
           simp (disch := omega) [hF, hcn, e3]
           exact gKc _ _ ⟨by simp [Fs, hF], hkq.trans hk2, hkv2, hT2⟩
         | false =>
          simp (disch := omega) [hF, hcn]
          exact gKc _ _ ⟨by simp [Fs, hF], hkq.trans hk2, hkv2, hT2⟩
        ·as_aux_lemma =>
         clear hF
         rintro fr st' ⟨hF, hkq2, hkv2, hT2⟩
         simp only [Fs] at hF
         simp only [List.drop]
         rw [← hbd] at hF
         have m3 := hT2.ld.l3
         have hls : i < css.length := by rw [hkv2.l]; omega
         have hlk : i < kids.length := by omega
         have hki := hkv2.s.ix Tryz.underlying23 Jci (k := .i64) (a := (i : Int)) (by omega) (by omega)
         have hkd := hkv2.s.ld Jci Jgx hls
         obtain ⟨v, s3, hcw, rfl, hk3⟩ := Says.use (ih _ (List.getElem_mem hlk) st' _ (hkv2.r i hls hlk))
         obtain ⟨B3, hB3⟩ : ∃ b, Jcd names i = b := ⟨_, rfl⟩
         obtain ⟨WK, hWK⟩ : ∃ b, QA kids[i] = b := ⟨_, rfl⟩
         rw [hB3] at hF
         rw [hWK] at hcw
         cases B3 with
         | true =>
          simp (disch := omega) [hF]
          refine gK _ _ (Kt_ (by simp (disch := omega) []) (Ks_ (Ka_ (gs := [none]) fun K1 gK => ?_)))
          simp (disch := omega) []
          refine gK _ _ (Kq_ (gr4 _ _ ?_))
          simp [J7, Tryz.f16, hF]
          refine hR _ _ ?_
          exact ⟨by rw [JkQ hlt hB3]; simp, kq.trans hkq2⟩
         | false =>
          simp (disch := omega) [hF, gN3, m3, hki, hkd, hcw]
          refine gK _ _ ?_
          cases WK with
          | true =>
           refine Kf_ (by simp (disch := omega) []) (Kk_ (gn4 _ _ (Ka_ (gs := [none, none]) fun K1 gK => ?_)))
           simp (disch := omega) [hF]
           refine gK _ _ ?_
           refine gk3 (i + 1) _ _ (by omega) ⟨by simp [Fs, hF], by omega, Jiu hN2 hB3, hW.step (fun _ => hWK), hkq2.trans hk3⟩
          | false =>
           refine Kt_ (by simp (disch := omega) []) (Ks_ (Ka_ (gs := [none]) fun K1 gK => ?_))
           simp (disch := omega) []
           refine gK _ _ (Kq_ (gr4 _ _ ?_))
           simp [J7, Tryz.f16, hF]
           refine hR _ _ ?_
           exact ⟨by rw [JjI hlk hWK]; simp, kq.trans (hkq2.trans hk3)⟩
       ·
        refine Kf_ (by simp (disch := omega) [hlt]) ?_
        have hLk := of_decide_eq_true hL
        exact Kx_ (gx3 _ _ ⟨by simp [Fs, hF, hlt], JjR hN2 (by omega), Jik hW (by omega), hkq⟩)
      ·as_aux_lemma =>
       clear hF
       rintro fr st' ⟨hF, hN2, hW, hkq⟩
       simp only [Fs] at hF
       refine Ks_ (Ka_ (gs := [none]) fun K1 gK => ?_)
       simp (disch := omega) []
       refine gK _ _ (Kq_ (gr1 _ _ ?_))
       simp [J7, Tryz.f16, hF]
       refine hR _ _ ?_
       exact ⟨by rw [hN2, hW]; rfl, kq.trans hkq⟩
     | false =>
      refine Kt_ (by simp (disch := omega) []) (Ks_ (Ka_ (gs := [none]) fun K1 gK => ?_))
      simp (disch := omega) []
      refine gK _ _ (Kq_ (gr1 _ _ ?_))
      simp [J7, Tryz.f16, hF]
      refine hR _ _ ?_
      exact ⟨rfl, kq⟩
    | false =>
     refine Ks_ (Ks_ (Ka_ (gs := [none, none, none, none, some (some 45, false), some (some 45, false), some (some 45, false), some (some 45, false), some (some 45, false), some (some 45, false), some (some 45, false), none]) fun K1 gK => ?_))
     simp (disch := omega) [hF, gN1, l1, hsm]
     refine gK _ _ (Kt_ (by simp (disch := omega) []) (Ks_ (Ka_ (gs := [none]) fun K1 gK => ?_)))
     simp (disch := omega) []
     refine gK _ _ (Kq_ (gr1 _ _ ?_))
     simp [J7, Tryz.f16, hF]
     refine hR _ _ ?_
     exact ⟨rfl, kq⟩
   | false =>
    refine Kf_ (by simp (disch := omega) []) (Kk_ (gn1 _ _ (Ks_ (Ka_ (gs := [none]) fun K1 gK => ?_))))
    simp (disch := omega) []
    refine gK _ _ (Kq_ (gr _ _ ?_))
    simp [J7, Tryz.f16, hF]
    refine hR _ _ ?_
    exact ⟨rfl, kq⟩
theorem Jhc (gl : Gl) {aL : List V} (hh : Hits gl aL) : ∀ t : Nt, t.fit → Jmm gl 16 t := Nt.ind fun kind text names kids ih hf st cs h => by
 cases hf with
 | mk _ _ _ _ ht hnl hkl hns hks =>
 cases h with
 | mk kind text nv kv names kids css hk hn hs hl hz hr => exact Jil gl hh st kind text nv kv names kids css hk hn ⟨hs, hl, hr⟩ hnl hkl fun t ht => ih t ht (hks t ht)
end Go.Vm
