/- What the law's own helpers answer: same, rising. -/
import Derived.Test.YtlholbhaajklhaaGreatDoorRz9
namespace Go.Vm
open Go Go.Proofs Go.Pa
attribute [local simp] OkG Qf Qs OkD J3 Qe JL Je Jk vop Jq Jx ev evs toV Jj Fr.dsTo Fr.glTo Fr.toNone Jg Jh Ji J7 QI Jc JF Jt V.undef JX JQ Qg J8 J9 Qa Qh Qi JT Qb Qj Qc JR Qk JE Jw Jy JD JG Ju JS JW Jb0 Jb1 Q6 Jbh JdL JdM fg0 fg1 fg2 fg3 fg4 fg5
theorem JlB {l : List Fw} {n : Nat} (h : n < l.length) : placeE true l (n : Int) = 0 := by
 have : ((n : Nat) : Int) < (l.length : Int) := by omega
 simp [placeE, h]
theorem JlC {l : List Fw} {n : Nat} (h : n < l.length) : JdP true l (n : Int) = QW l n := by
 simp [JdP, h]
structure But (x : V) (st st' : St) : Prop where
 ctr : st.ctr ≤ st'.ctr
 box : ∀ i, i < st.ctr → ¬ vid x i → st'.box.get i = st.box.get i
variable [Memo] [NY]
end Go.Vm
namespace Go.Vm
open Go Go.Proofs Go.Pa
attribute [local simp] OkG Qf Qs OkD J3 Qe JL Je Jk vop Jq Jx ev evs toV Jj Fr.dsTo Fr.glTo Fr.toNone Jg Jh Ji J7 QI Jc JF Jt V.undef JX JQ Qg J8 J9 Qa Qh Qi JT Qb Qj Qc JR Qk JE Jw Jy JD JG Ju JS JW Jb0 Jb1 Q6 Jbh JdL JdM fg0 fg1 fg2 fg3 fg4 fg5
class NA [Memo] : Prop where
 awake : ∀ st : St, (Memo.look 8).run [] st = some (.bool true, st)
theorem JfU : ∀ {a b : List S}, a.map S.toList = b.map S.toList → Jcb S.same a b = true
 | [], [], _ => rfl
 | [], _ :: _, h => by simp at h
 | _ :: _, [], h => by simp at h
 | x :: a, y :: b, h => by
  simp only [List.map_cons, List.cons.injEq] at h
  rw [Jcb, JfU h.2, S.same_eq, h.1]
  simp
variable [Memo] [NY] [NZ] [NO] [NA]
omit [NY] [NZ] [NO] in
theorem Jiu (gl : Gl) (st : St) : Says Tryz.prog gl 8 [] st fun v st' => v = .bool true ∧ Sm st st' := ⟨_, _, Jd2 (NA.awake st), rfl, rfl⟩
omit [NZ] [NO] [NA] in
theorem JnT (gl : Gl) {aL : List V} (hh : Hits gl aL) (st : St) (x : V) (l : List Fw) (n : Int) (hx : Row Fw.cells x l) (hok : ∀ f ∈ l, f.ok) (hs : ∀ f ∈ l, f.small) (hl : l.length ≤ 60) : Says Tryz.prog gl 71 [x, .int .i64 n] st fun v st' => JmR st.ctr (Jfn l) l n st' v ∧ Keep st st' :=
 JoR gl hh st x l n hx hok hs hl fun hm m hmm => Jlz hm m hmm
omit [NZ] [NO] [NA] in
theorem JnU (gl : Gl) {aL : List V} (hh : Hits gl aL) (st : St) (x : V) (l : List Fw) (n : Nat) (hn : n < l.length) (hx : Row Fw.cells x l) (hok : ∀ f ∈ l, f.ok) (hs : ∀ f ∈ l, f.small) (hl : l.length ≤ 60) (hM : Jfn l = true) : Says Tryz.prog gl 71 [x, .int .i64 (n : Int)] st fun v st' => (∃ y, v = .tup [y, .int .i64 0] ∧ Mine st.ctr 9 st' y ((QW l n).map .str)) ∧ Keep st st' := by
 refine (JnT gl hh st x l (n : Int) hx hok hs hl).mono fun v st' h => ?_
 obtain ⟨⟨y, h1, h2⟩, h3⟩ := h
 rw [hM, JlB hn] at h1
 rw [hM, JlC hn] at h2
 exact ⟨⟨y, h1, h2⟩, h3⟩
end Go.Vm
namespace Go.Vm
open Go Go.Proofs Go.Pa
attribute [local simp] OkG Qf Qs OkD J3 Qe JL Je Jk vop Jq Jx ev evs toV Jj Fr.dsTo Fr.glTo Fr.toNone Jg Jh Ji J7 QI Jc JF Jt V.undef JX JQ Qg J8 J9 Qa Qh Qi JT Qb Qj Qc JR Qk JE Jw Jy JD JG Ju JS JW JK Ql
inductive Tw
 | mk (ref : Int) (kind : Nat) (text : S) (base : Int) (nv : V) (names : List S) (kv : V) (kids : List Tw)
def Tw.cells : Tw → List V
 | .mk ref kind text base nv _ kv _ => [.int .i64 ref, .int .u8 (kind : Int), .str text, .int .i64 base, nv, kv]
inductive Tw.ok : Tw → Prop
 | mk (ref : Int) (kind : Nat) (text : S) (base : Int) (nv : V) (names : List S) (kv : V) (kids : List Tw) (hk : kind < 256) (hn : Row sC nv names) (hkv : Row Tw.cells kv kids) (hks : ∀ t ∈ kids, Tw.ok t) : Tw.ok (.mk ref kind text base nv names kv kids)
inductive Tw.small : Tw → Prop
 | mk (ref : Int) (kind : Nat) (text : S) (base : Int) (nv : V) (names : List S) (kv : V) (kids : List Tw) (ht : text.n ≤ 5000) (hn : names.length ≤ 200) (hnt : ∀ s ∈ names, s.n ≤ 300) (hk : kids.length ≤ 200) (hks : ∀ t ∈ kids, Tw.small t) : Tw.small (.mk ref kind text base nv names kv kids)
theorem Tw.len6 (t : Tw) : t.cells.length = 6 := by cases t; rfl
mutual
def Tw.nodes : Tw → Nat
 | .mk _ _ _ _ _ _ _ kids => QC kids + 1
def QC : List Tw → Nat
 | [] => 0
 | t :: l => t.nodes + QC l
end
theorem JcT : ∀ (l : List Tw) (i : Nat) (h : i < l.length), QC (l.take (i + 1)) = QC (l.take i) + l[i].nodes
 | [], i, h => by simp at h
 | t :: l, 0, _ => by simp [QC]
 | t :: l, i + 1, h => by
  have := JcT l i (by simpa using h)
  simp only [List.take_succ_cons, QC, this, List.getElem_cons_succ]; omega
theorem Jdg : ∀ (l : List Tw) (i : Nat), QC (l.take i) ≤ QC l
 | [], i => by simp [QC]
 | t :: l, 0 => by simp [QC]
 | t :: l, i + 1 => by
  have := Jdg l i
  simp only [List.take_succ_cons, QC]; omega
theorem Jca {l : List Tw} {t : Tw} (h : t ∈ l) : t.nodes ≤ QC l := by
 obtain ⟨i, hi, rfl⟩ := List.getElem_of_mem h
 have h1 := JcT l i hi
 have h2 := Jdg l (i + 1)
 omega
structure Sw where
 fv : V
 facts : List Fw
 tree : Tw
 inc : Bool
 why : S
 code : Int
 out : S
 err : S
def Sw.cells (s : Sw) : List V := s.fv :: (s.tree.cells ++ [.bool s.inc, .str s.why, .int .i64 s.code, .str s.out, .str s.err])
structure Sw.ok (s : Sw) : Prop where
 fv : Row Fw.cells s.fv s.facts
 facts : ∀ f ∈ s.facts, f.ok
 tree : s.tree.ok
structure Sw.small (s : Sw) : Prop where
 len : s.facts.length ≤ 50
 facts : ∀ f ∈ s.facts, f.small
 tree : s.tree.small
 nodes : s.tree.nodes ≤ 200
 why : s.why.n ≤ 1000
 out : s.out.n ≤ 3000
 err : s.err.n ≤ 3000
theorem Sw.len12 (s : Sw) : s.cells.length = 12 := by
 unfold Sw.cells
 rw [List.length_cons, List.length_append, Tw.len6]; rfl
theorem Tw.ones {t : Tw} (h : t.ok) : t.cells.all JZ = true := by
 cases h with
 | mk ref kind text base nv names kv kids hk hn hkv hks =>
  simp only [Tw.cells, List.all_cons, hn.one, hkv.one]
  rfl
theorem Sw.ones {s : Sw} (h : s.ok) : s.cells.all JZ = true := by
 simp only [Sw.cells, List.all_cons, List.all_append, h.fv.one, Tw.ones h.tree]
 rfl
theorem JhJ : JU Tryz.prog 26 = some 6 := by kernel_rfl
theorem JoS : QM Tryz.prog 26 = some true := by kernel_rfl
theorem JpQ : JU Tryz.prog 24 = some 1 := by kernel_rfl
theorem JpR : QM Tryz.prog 24 = some false := by kernel_rfl
theorem JpS : JU Tryz.prog 28 = some 12 := by kernel_rfl
theorem JpT : QM Tryz.prog 28 = some true := by kernel_rfl
theorem gT0 (id : Nat) : Jo Tryz.prog 26 (.ptr id 0) 0 = some (.ptr id 0) := by kernel_rfl
theorem gT1 (id : Nat) : Jo Tryz.prog 26 (.ptr id 0) 1 = some (.ptr id 1) := by kernel_rfl
theorem gT2 (id : Nat) : Jo Tryz.prog 26 (.ptr id 0) 2 = some (.ptr id 2) := by kernel_rfl
theorem gT3 (id : Nat) : Jo Tryz.prog 26 (.ptr id 0) 3 = some (.ptr id 3) := by kernel_rfl
theorem gT4 (id : Nat) : Jo Tryz.prog 26 (.ptr id 0) 4 = some (.ptr id 4) := by kernel_rfl
theorem gT5 (id : Nat) : Jo Tryz.prog 26 (.ptr id 0) 5 = some (.ptr id 5) := by kernel_rfl
theorem gU0 (id : Nat) : Jo Tryz.prog 26 (.ptr id 1) 0 = some (.ptr id 1) := by kernel_rfl
theorem gU1 (id : Nat) : Jo Tryz.prog 26 (.ptr id 1) 1 = some (.ptr id 2) := by kernel_rfl
theorem gS0 (id : Nat) : Jo Tryz.prog 28 (.ptr id 0) 0 = some (.ptr id 0) := by kernel_rfl
theorem gS1 (id : Nat) : Jo Tryz.prog 28 (.ptr id 0) 1 = some (.ptr id 1) := by kernel_rfl
theorem gS2 (id : Nat) : Jo Tryz.prog 28 (.ptr id 0) 2 = some (.ptr id 7) := by kernel_rfl
theorem gS3 (id : Nat) : Jo Tryz.prog 28 (.ptr id 0) 3 = some (.ptr id 8) := by kernel_rfl
theorem gS4 (id : Nat) : Jo Tryz.prog 28 (.ptr id 0) 4 = some (.ptr id 9) := by kernel_rfl
theorem gS5 (id : Nat) : Jo Tryz.prog 28 (.ptr id 0) 5 = some (.ptr id 10) := by kernel_rfl
theorem gS6 (id : Nat) : Jo Tryz.prog 28 (.ptr id 0) 6 = some (.ptr id 11) := by kernel_rfl
set_option maxRecDepth 100000 in
theorem JhK {st : St} {id : Nat} {t : Tw} {e : TypeId} {fl : Bool} {fz : Option Nat} (hb : st.box.get id = some (.cells t.cells e fl fz)) : Jz Tryz.prog st 26 (.ptr id 0) = some (.agg t.cells) := by
 cases t
 simp only [Jz, hb, QQ, JoS, JhJ]
 rfl
set_option maxRecDepth 100000 in
theorem Jmo (t : Tw) (r : List V) (st : St) : Jz Tryz.prog st 26 (.cp (t.cells ++ r)) = some (.agg t.cells) := by
 cases t
 simp only [Jz, QQ, JoS, JhJ, sub]
 rfl
set_option maxRecDepth 100000 in
theorem Jmp {st : St} {id : Nat} {s : Sw} {e : TypeId} {fl : Bool} {fz : Option Nat} (hb : st.box.get id = some (.cells s.cells e fl fz)) : Jz Tryz.prog st 26 (.ptr id 1) = some (.agg s.tree.cells) := by
 obtain ⟨fv, facts, tree, inc, why, code, out, err⟩ := s
 cases tree
 simp only [Jz, hb, QQ, JoS, JhJ]
 rfl
set_option maxRecDepth 100000 in
theorem JnV {st : St} {id : Nat} {s : Sw} {e : TypeId} {fl : Bool} {fz : Option Nat} (hb : st.box.get id = some (.cells s.cells e fl fz)) : Jz Tryz.prog st 28 (.ptr id 0) = some (.agg s.cells) := by
 obtain ⟨fv, facts, tree, inc, why, code, out, err⟩ := s
 cases tree
 simp only [Jz, hb, QQ, JpT, JpS]
 rfl
theorem Ja (cs : List V) : (V.agg cs).cells = cs := rfl
def Jao (st : St) (cs : List V) (T : TypeId) : St := st.new (.cells cs T true (some 0))
theorem Qz (st : St) (cs : List V) (T : TypeId) : Keep st (Jao st cs T) := (Keep.refl st).new' _
theorem Jdh (st : St) (cs : List V) (T : TypeId) : (Jao st cs T).box.get st.ctr = some (.cells cs T true (some 0)) := by unfold Jao; rw [Js, if_pos rfl]
theorem Jdi (st : St) (cs : List V) (T : TypeId) : (Jao st cs T).ctr = st.ctr + 1 := rfl
theorem Jaa (st : St) (cs : List V) (T : TypeId) : ({ ctr := st.ctr + 1, box := st.box.put st.ctr (.cells cs T true (some 0)) } : St) = Jao st cs T := rfl
structure SwBox (st : St) (id : Nat) (s : Sw) : Prop where
 b : st.box.get id = some (.cells s.cells 28 true (some 0))
 lt : id < st.ctr
theorem SwBox.keep {st st' : St} {id : Nat} {s : Sw} (h : SwBox st id s) (k : Keep st st') : SwBox st' id s := ⟨by rw [k.box id h.lt]; exact h.b, Nat.lt_of_lt_of_le h.lt k.ctr⟩
structure SwLd (st : St) (id : Nat) (s : Sw) : Prop where
 l0 : Jz Tryz.prog st 22 (.ptr id 0) = some s.fv
 l1 : Jz Tryz.prog st 26 (.ptr id 1) = some (.agg s.tree.cells)
 l2 : Jz Tryz.prog st 4 (.ptr id 7) = some (.bool s.inc)
 l3 : Jz Tryz.prog st 9 (.ptr id 8) = some (.str s.why)
 l4 : Jz Tryz.prog st 3 (.ptr id 9) = some (.int .i64 s.code)
 l5 : Jz Tryz.prog st 9 (.ptr id 10) = some (.str s.out)
 l6 : Jz Tryz.prog st 9 (.ptr id 11) = some (.str s.err)
 l : Jz Tryz.prog st 28 (.ptr id 0) = some (.agg s.cells)
theorem SwBox.ld {st : St} {id : Nat} {s : Sw} (h : SwBox st id s) : SwLd st id s := by
 have hb := h.b
 have h1 := Jmp hb
 have h2 := JnV hb
 obtain ⟨fv, facts, tree, inc, why, code, out, err⟩ := s
 cases tree
 exact ⟨Jb (off := 0) a22 z22 hb rfl, h1, Jb (off := 7) a4 z4 hb rfl, Jb (off := 8) a9 z9 hb rfl, Jb (off := 9) a3 z3 hb rfl, Jb (off := 10) a9 z9 hb rfl, Jb (off := 11) a9 z9 hb rfl, h2⟩
theorem SwBox.new {st : St} {s : Sw} : SwBox (Jao st s.cells 28) st.ctr s := ⟨Jdh .., Nat.lt_succ_self _⟩
def classN (s : Sw) : Nat := cond s.inc 2 (cond (decide (s.code = 0)) 0 1)
def JaT : Nat → List UInt8
 | 0 => [115, 117, 99, 99, 101, 115, 115]
 | 1 => [102, 97, 105, 108, 117, 114, 101]
 | _ => [105, 110, 99, 111, 109, 112, 108, 101, 116, 101]
def classV : List V := [.str (S.ofList [115, 117, 99, 99, 101, 115, 115]), .str (S.ofList [102, 97, 105, 108, 117, 114, 101]), .str (S.ofList [105, 110, 99, 111, 109, 112, 108, 101, 116, 101])]
def kindsV : List V := [.str (S.ofList [97, 98, 115, 101, 110, 116]), .str (S.ofList [102, 105, 108, 101, 32]), .str (S.ofList [100, 105, 114]), .str (S.ofList [108, 105, 110, 107, 32])]
theorem JpU : Jd Tryz.prog 59 (.cp classV) (.int .i64 0) = some (.cp classV) := by kernel_rfl
theorem JpV : Jd Tryz.prog 59 (.cp classV) (.int .i64 1) = some (.cp (classV.drop 1)) := by kernel_rfl
theorem JpW : Jd Tryz.prog 59 (.cp classV) (.int .i64 2) = some (.cp (classV.drop 2)) := by kernel_rfl
section
variable (st : St)
theorem JpX : Jz Tryz.prog st 9 (.cp classV) = some (.str (S.ofList (JaT 0))) := by simp only [Jz, QQ, a9, z9]; rfl
theorem JpY : Jz Tryz.prog st 9 (.cp (classV.drop 1)) = some (.str (S.ofList (JaT 1))) := by simp only [Jz, QQ, a9, z9]; rfl
theorem JpZ : Jz Tryz.prog st 9 (.cp (classV.drop 2)) = some (.str (S.ofList (JaT 2))) := by simp only [Jz, QQ, a9, z9]; rfl
end
variable [Memo] [NY]
set_option maxRecDepth 100000 in
theorem Jmq (gl : Gl) (st : St) (s : Sw) (hok : s.ok) :
  Says Tryz.prog gl 37 [.agg s.cells] st (fun v st' => v = .int .i64 (classN s : Int) ∧ Keep st st') := by
 refine QD (NY.no _ rfl rfl rfl _ _) Tryz.func37 rfl (by kernel_rfl) fun R hR K gr gn => ?_
 generalize hfr : JH gl [.agg s.cells] = fr
 have hF : Fs gl [(0, .agg s.cells)] fr := by subst hfr; simp [Fs]
 simp only [Fs] at hF
 clear hfr
 have ho := Sw.ones hok
 have kq := Qz st s.cells 28
 have hb := Jaa st s.cells 28
 have hS := SwBox.new (st := st) (s := s)
 simp only [classN] at hR
 generalize Jao st s.cells 28 = q at kq hb hS
 obtain ⟨_, _, l2, _, l4, _, _, _⟩ := hS.ld
 clear hS
 obtain ⟨I, hI⟩ : ∃ I, s.inc = I := ⟨_, rfl⟩
 obtain ⟨C, hC⟩ : ∃ C, decide (s.code = 0) = C := ⟨_, rfl⟩
 have e1 : ∀ kk, Jf Tryz.prog kk .neq 3 (.int .i64 s.code) (.int .i64 0) = some (.bool (!C)) := fun kk => by rw [← hC]; exact JcV
 rw [hI] at l2
 rw [hI, hC] at hR
 refine Ks_ (Ka_ (gs := [none, none]) fun K1 gK => ?_)
 simp (disch := omega) [hF, Ja, ho, hb]
 refine gK _ _ (Ks_ ?_)
 refine Kb_ fun K1 gn1 gx1 go1 => ?_
 have gr1 := fun fr st h => go1 AE.ret fr st trivial (gr fr st h)
 refine Ks_ (Ka_ (gs := [none, none, none]) fun K1 gK => ?_)
 simp (disch := omega) [gS2, l2]
 refine gK _ _ ?_
 cases I with
 | true =>
  refine Kt_ (by simp (disch := omega) []) (Ks_ (Ka_ (gs := [none]) fun K1 gK => ?_))
  simp (disch := omega) []
  refine gK _ _ (Kq_ (gr1 _ _ ?_))
  simp [JM, Tryz.f37, hF]
  refine hR _ _ ?_
  exact ⟨rfl, kq⟩
 | false =>
  refine Kf_ (by simp (disch := omega) []) (Ks_ (Ka_ (gs := [none, none, none, none]) fun K1 gK => ?_))
  simp (disch := omega) [gS4, l4, e1]
  refine gK _ _ ?_
  cases C with
  | true =>
   refine Kf_ (by simp (disch := omega) []) (Kk_ (gn1 _ _ (Ks_ (Ka_ (gs := [none]) fun K1 gK => ?_))))
   simp (disch := omega) []
   refine gK _ _ (Kq_ (gr _ _ ?_))
   simp [JM, Tryz.f37, hF]
   refine hR _ _ ?_
   exact ⟨rfl, kq⟩
  | false =>
   refine Kt_ (by simp (disch := omega) []) (Ks_ (Ka_ (gs := [none]) fun K1 gK => ?_))
   simp (disch := omega) []
   refine gK _ _ (Kq_ (gr1 _ _ ?_))
   simp [JM, Tryz.f37, hF]
   refine hR _ _ ?_
   exact ⟨rfl, kq⟩
set_option maxRecDepth 100000 in
theorem JoT (gl : Gl) (hg : gl.get 0 = some classV) (st : St) (s : Sw) (hok : s.ok) :
  Says Tryz.prog gl 14 [.agg s.cells] st (fun v st' => v = .str (S.ofList (JaT (classN s))) ∧ Keep st st') := by
 refine QD (NY.no _ rfl rfl rfl _ _) Tryz.func14 rfl (by kernel_rfl) fun R hR K gr gn => ?_
 generalize hfr : JH gl [.agg s.cells] = fr
 have hF : Fs gl [(0, .agg s.cells)] fr := by subst hfr; simp [Fs]
 simp only [Fs] at hF
 clear hfr
 have ho := Sw.ones hok
 have kq := Qz st s.cells 28
 have hb := Jaa st s.cells 28
 have hS := SwBox.new (st := st) (s := s)
 generalize Jao st s.cells 28 = q at kq hb hS
 have l := hS.ld.l
 obtain ⟨v, s1, hc, rfl, hk1⟩ := Says.use (Jmq gl q s hok)
 have hcl : classN s = 0 ∨ classN s = 1 ∨ classN s = 2 := by
  unfold classN
  cases s.inc <;> cases decide (s.code = 0) <;> simp
 clear hS
 have hgx : (fr.gl.get 0) = some classV := by rw [hF.2.2]; exact hg
 obtain ⟨n, hn⟩ : ∃ n, classN s = n := ⟨_, rfl⟩
 rw [hn] at hc hR hcl
 clear hn
 have ci : Jd Tryz.prog 59 (.cp classV) (.int .i64 (n : Int)) = some (.cp (classV.drop n)) := by
  rcases hcl with rfl | rfl | rfl
  ·exact JpU
  ·exact JpV
  ·exact JpW
 have cl : ∀ st, Jz Tryz.prog st 9 (.cp (classV.drop n)) = some (.str (S.ofList (JaT n))) := fun st => by
  rcases hcl with rfl | rfl | rfl
  ·exact JpX st
  ·exact JpY st
  ·exact JpZ st
 refine Ks_ (Ka_ (gs := [none, none]) fun K1 gK => ?_)
 simp (disch := omega) [hF, Ja, ho, hb]
 refine gK _ _ (Ks_ (Ka_ (gs := [none, none, none, none, none]) fun K1 gK => ?_))
 simp (disch := omega) [hF, l, hc, hg, ci, cl]
 refine gK _ _ (Kq_ (gr _ _ ?_))
 simp [JM, Tryz.f14, hF]
 refine hR _ _ ?_
 exact ⟨rfl, kq.trans hk1⟩
end Go.Vm
