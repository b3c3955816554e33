/- Facts: what a fact is; which are directories. -/
import Derived.Test.YtlholbhaajklhaaGreatDoorRz1
namespace Go.Vm
open Go Go.Proofs Go.Pa
attribute [local simp] Oks Qe Je Jk vop Jq Jx ev evs toV andThen inBlock Jj Fr.dsTo Fr.glTo Fr.toNone Jg Jh Ji J7 Jc JF Jt V.undef JX Qq QJ
inductive Row {α : Type} (f : α → List V) : V → List α → Prop
 | nils : Row f .nils []
 | sl (l : List α) (ex : Bool) : Row f (.sl l.length (l.flatMap f) ex) l
theorem Row.one {α : Type} {f : α → List V} {x : V} {l : List α} (h : Row f x l) : JZ x = true := by cases h <;> rfl
theorem Row.len {α : Type} {f : α → List V} {x : V} {l : List α} (h : Row f x l) {P : Program} {T e : TypeId} (hT : P.underlying T = some (.slice e)) : QY P T x = some (.int .i64 (l.length : Int)) := by
 cases h <;> simp [QY, hT]
theorem JeS {α : Type} {f : α → List V} {z : Nat} : ∀ (l : List α) (_ : ∀ a ∈ l, (f a).length = z) (i : Nat) (h : i < l.length), (l.flatMap f).drop (i * z) = f l[i] ++ (l.drop (i + 1)).flatMap f
 | [], _, i, h => by simp at h
 | a :: r, hz, 0, _ => by simp
 | a :: r, hz, i + 1, h => by
  have ha : (f a).length = z := hz a (by simp)
  rw [List.flatMap_cons, Nat.succ_mul, Nat.add_comm, ← List.drop_drop, show (f a ++ r.flatMap f).drop z = r.flatMap f from by rw [← ha]; simp, JeS r (fun b hb => hz b (by simp [hb])) i (by simpa using h)]
  simp
theorem Row.get {α : Type} {f : α → List V} {z : Nat} {x : V} {l : List α} (h : Row f x l) (hz : ∀ a ∈ l, (f a).length = z) {P : Program} {T e : TypeId} (hT : P.underlying T = some (.slice e)) (he : JU P e = some z) {i : Nat} (hi : i < l.length) :
  ∃ r, ∀ k, Jd P T x (.int k (i : Int)) = some (.cp (f l[i] ++ r)) := by
 have hb : Nat.blt i l.length = true := by rw [JaI]; exact decide_eq_true hi
 cases h with
 | nils => simp at hi
 | sl l ex => exact ⟨(l.drop (i + 1)).flatMap f, fun k => by simp only [Jd, hT, Qn, he, hb]; rw [JeS l hz i hi]⟩
structure Fw where
 known : Bool
 kind : Nat
 nv : V
 names : List S
 kv : V
 kids : List Int
 rest : Int
 beside : Int
def sC (s : S) : List V := [.str s]
def iC (n : Int) : List V := [.int .i64 n]
def Fw.cells (f : Fw) : List V := [.bool f.known, .int .u8 (f.kind : Int), f.nv, f.kv, .int .i64 f.rest, .int .i64 f.beside]
structure Fw.ok (f : Fw) : Prop where
 kind : f.kind < 256
 names : Row sC f.nv f.names
 kids : Row iC f.kv f.kids
structure Fw.small (f : Fw) : Prop where
 names : f.names.length ≤ 60
 kids : f.kids.length ≤ 60
 text : ∀ s ∈ f.names, s.n ≤ 300
theorem Fw.len6 (f : Fw) : f.cells.length = 6 := rfl
theorem z38 : JU Tryz.prog 47 = some 6 := by kernel_rfl
theorem a38 : QM Tryz.prog 47 = some true := by kernel_rfl
theorem Jc6 : QZ Tryz.prog 47 = some (.agg [.bool false, .int .u8 0, .nils, .nils, .int .i64 0, .int .i64 0]) := by kernel_rfl
theorem z9 : JU Tryz.prog 9 = some 1 := by kernel_rfl
theorem a9 : QM Tryz.prog 9 = some false := by kernel_rfl
theorem z3 : JU Tryz.prog 3 = some 1 := by kernel_rfl
theorem a3 : QM Tryz.prog 3 = some false := by kernel_rfl
theorem z4 : JU Tryz.prog 4 = some 1 := by kernel_rfl
theorem a4 : QM Tryz.prog 4 = some false := by kernel_rfl
theorem z5 : JU Tryz.prog 5 = some 1 := by kernel_rfl
theorem a5 : QM Tryz.prog 5 = some false := by kernel_rfl
theorem z22 : JU Tryz.prog 22 = some 1 := by kernel_rfl
theorem a22 : QM Tryz.prog 22 = some false := by kernel_rfl
theorem z23 : JU Tryz.prog 23 = some 1 := by kernel_rfl
theorem a23 : QM Tryz.prog 23 = some false := by kernel_rfl
theorem z36 : JU Tryz.prog 45 = some 1 := by kernel_rfl
theorem a36 : QM Tryz.prog 45 = some false := by kernel_rfl
theorem fg0 (id : Nat) : Jo Tryz.prog 47 (.ptr id 0) 0 = some (.ptr id 0) := by kernel_rfl
theorem fg1 (id : Nat) : Jo Tryz.prog 47 (.ptr id 0) 1 = some (.ptr id 1) := by kernel_rfl
theorem fg2 (id : Nat) : Jo Tryz.prog 47 (.ptr id 0) 2 = some (.ptr id 2) := by kernel_rfl
theorem fg3 (id : Nat) : Jo Tryz.prog 47 (.ptr id 0) 3 = some (.ptr id 3) := by kernel_rfl
theorem fg4 (id : Nat) : Jo Tryz.prog 47 (.ptr id 0) 4 = some (.ptr id 4) := by kernel_rfl
theorem fg5 (id : Nat) : Jo Tryz.prog 47 (.ptr id 0) 5 = some (.ptr id 5) := by kernel_rfl
theorem Jkr (f : Fw) (r : List V) (st : St) : Jz Tryz.prog st 47 (.cp (f.cells ++ r)) = some (.agg f.cells) := by
 simp only [Jz, QQ, a38, z38, sub]
 rfl
theorem JoG (s : S) (r : List V) (st : St) : Jz Tryz.prog st 9 (.cp (sC s ++ r)) = some (.str s) := by
 simp only [Jz, QQ, a9, z9]
 rfl
theorem JoH (n : Int) (r : List V) (st : St) : Jz Tryz.prog st 3 (.cp (iC n ++ r)) = some (.int .i64 n) := by
 simp only [Jz, QQ, a3, z3]
 rfl
theorem Jli {st : St} {id : Nat} {f : Fw} {e : TypeId} {fl : Bool} {fz : Option Nat} (hb : st.box.get id = some (.cells f.cells e fl fz)) : Jz Tryz.prog st 47 (.ptr id 0) = some (.agg f.cells) := by
 simp only [Jz, hb, QQ, a38, z38]
 rfl
theorem Fw.ones {f : Fw} (h : f.ok) : f.cells.all JZ = true := by
 simp only [Fw.cells, List.all_cons, h.names.one, h.kids.one]
 rfl
def Jba (st : St) (f : Fw) : St := { ctr := st.ctr + 1, box := st.box.put st.ctr (.cells f.cells 47 true (some 0)) }
theorem JcD (st : St) (f : Fw) : Keep st (Jba st f) := (Keep.refl st).new _
theorem Jc7 (st : St) (f : Fw) : (Jba st f).box.get st.ctr = some (.cells f.cells 47 true (some 0)) := by unfold Jba; rw [Tr.get_put, if_pos rfl]
theorem Jjp (st : St) (f : Fw) : st.ctr < (Jba st f).ctr := Nat.lt_succ_self _
def JcE (f : Fw) : Bool := f.known && decide (f.kind = 2)
variable [Memo] [NY]
theorem JpJ (gl : Gl) (st : St) (f : Fw) (hok : f.ok) :
  ∃ v st', W Tryz.prog (.call gl 54 [.agg f.cells]) st = .call (.val v st') ∧ v = .bool (JcE f) ∧ Keep st st' := by
 refine JaK (NY.no _ rfl rfl rfl _ _) Tryz.func54 rfl (by kernel_rfl) ?_
 have ho := Fw.ones hok
 have hk1 := JcD st f
 have b1 := Jc7 st f
 have hs : ({ ctr := st.ctr + 1, box := st.box.put st.ctr (.cells f.cells 47 true (some 0)) } : St) = Jba st f := rfl
 have l0 := Jb (P := Tryz.prog) (off := 0) a4 z4 b1 rfl
 have l1 := Jb (P := Tryz.prog) (off := 1) a5 z5 b1 rfl
 have e2 : ∀ kk, Jf Tryz.prog kk .eql 5 (.int .u8 (f.kind : Int)) (.int .u8 2) = some (.bool (decide (f.kind = 2))) := fun kk => JdR rfl
 have f0 := fg0 st.ctr
 have f1 := fg1 st.ctr
 unfold JcE
 generalize Jba st f = st1 at hk1 b1 hs l0 l1
 generalize f.cells = cs at ho hs
 generalize decide (f.kind = 2) = k2 at e2
 generalize f.known = kn at l0
 generalize (f.kind : Int) = ki at l1 e2
 repeat refine Does.seq ?_
 refine Does.region ?_
 simp [JK, V.cells, ho, Ql, hs]
 repeat refine Does.seq ?_
 refine Does.region ?_
 cases kn with
 | false =>
  simp [f0, l0]
  refine Does.ret ?_
  simp
  exact hk1
 | true =>
  simp [f0, l0, f1, l1, e2]
  refine Does.ret ?_
  simp
  exact hk1
end Go.Vm
namespace Go.Vm
open Go Go.Proofs Go.Pa
attribute [local simp] Oks Qe Je Jk vop Jq Jx ev evs toV andThen inBlock Jj Fr.dsTo Fr.glTo Fr.toNone Jg Jh Ji J7 Jc JF Jt V.undef JX Qq QJ
def leS (a b : S) : Bool := a.less b || a.same b
def JbW (l : List S) (i : Nat) : Bool := !JbM (l.getD i ⟨0, 0⟩) || (decide (0 < i) && leS (l.getD i ⟨0, 0⟩) (l.getD (i - 1) ⟨0, 0⟩))
def Jep (l : List S) (i : Nat) : Prop := ∀ j, j < i → JbW l j = false
def Q9 (l : List S) : Bool := (List.range l.length).all fun i => !JbW l i
theorem Jhz {l : List S} {i : Nat} (h : Jep l i) (hi : l.length ≤ i) : Q9 l = true := by
 unfold Q9
 rw [List.all_eq_true]
 intro j hj
 rw [h j (by have := List.mem_range.1 hj; omega)]; rfl
theorem Jjq {l : List S} {i : Nat} (hi : i < l.length) (h : JbW l i = true) : Q9 l = false := by
 unfold Q9
 rw [Bool.eq_false_iff]
 intro hc
 rw [List.all_eq_true] at hc
 have := hc i (List.mem_range.2 hi)
 rw [h] at this; cases this
theorem JgD {l : List S} {i : Nat} (h : Jep l i) (hb : JbW l i = false) : Jep l (i + 1) := fun j hj => by
 by_cases he : j = i
 ·subst he; exact hb
 ·exact h j (by omega)
def JdD (f : Fw) : Bool := decide (f.kind ≤ 3) && !(!f.known && !decide (f.kind = 0)) && decide (f.names.length = f.kids.length)
def Jjr (f : Fw) : Bool := decide (f.names.length = 0) && decide (f.rest = 0) && decide (f.beside = 0)
def Jjs (f : Fw) : Bool := cond (decide (f.rest = 2)) (decide (0 ≤ f.beside) && decide (f.beside ≤ (f.names.length : Int))) ((decide (f.rest = 0) || decide (f.rest = 1)) && decide (f.beside = 0))
def Jb4 (f : Fw) : Bool := cond (JdD f) (cond (JcE f) (Q9 f.names && Jjs f) (Jjr f)) false
def FcF (gl : Gl) (id1 : Nat) (fr : Fr) : Prop := fr.ds = [] ∧ fr.gl = gl ∧ Fr.at fr 1 = .ptr id1 0
def FcQ (gl : Gl) (id1 k : Nat) (st : St) (b : Bool) (fr : Fr) (st' : St) : Prop := Jfo st st' ∧ FcF gl id1 fr ∧ Fr.at fr k = .bool b
def HdQ (gl : Gl) (id1 : Nat) (st : St) (O H D : Bool) (e : AE) (fr : Fr) (st' : St) : Prop :=
 (e = AE.ret ∧ Keep st st' ∧ fr.ds = [] ∧ Fr.at fr 2 = .bool O) ∨ (e = AE.normal ∧ Keep st st' ∧ FcF gl id1 fr ∧ H = true ∧ D = true)
def Jqb (gl : Gl) (id1 : Nat) (st : St) (A : Bool) (e : AE) (fr : Fr) (st' : St) : Prop :=
 (e = AE.ret ∧ Keep st st' ∧ fr.ds = [] ∧ Fr.at fr 2 = .bool false ∧ A = false) ∨ (e = AE.normal ∧ Keep st st' ∧ FcF gl id1 fr ∧ A = true)
variable [Memo] [NY]
set_option maxHeartbeats 1000000 in
set_option maxRecDepth 100000 in
theorem Jom (gl : Gl) {aL : List V} (hh : Hits gl aL) (st : St) (f : Fw) (hok : f.ok) (hl60 : f.names.length < 1000000) :
  ∃ v st', W Tryz.prog (.call gl 55 [.agg f.cells]) st = .call (.val v st') ∧ v = .bool (Jb4 f) ∧ Keep st st' := by
 have hk28 : JN Tryz.prog 54 = true := by kernel_rfl
 have hk50 : JN Tryz.prog 74 = true := by kernel_rfl
 have lx := hok.names.len Tryz.underlying23
 have lk := hok.kids.len Tryz.underlying45
 refine JaK (NY.no _ rfl rfl rfl _ _) Tryz.func55 rfl (by kernel_rfl) ?_
 have ho := Fw.ones hok
 have hk1 := JcD st f
 have b1 := Jc7 st f
 have hct := Jjp st f
 have hs : ({ ctr := st.ctr + 1, box := st.box.put st.ctr (.cells f.cells 47 true (some 0)) } : St) = Jba st f := rfl
 generalize Jba st f = st1 at hk1 b1 hct hs
 generalize hid1 : st.ctr = id1 at b1 hct hs
 have l0 := Jb (P := Tryz.prog) (off := 0) a4 z4 b1 rfl
 have l1 := Jb (P := Tryz.prog) (off := 1) a5 z5 b1 rfl
 have l2 := Jb (P := Tryz.prog) (off := 2) a23 z23 b1 rfl
 have l3 := Jb (P := Tryz.prog) (off := 3) a36 z36 b1 rfl
 have l38 := Jli b1
 have f0 := fg0 id1
 have f1 := fg1 id1
 have f2 := fg2 id1
 have f3 := fg3 id1
 have f4 := fg4 id1
 have f5 := fg5 id1
 repeat refine Does.seq ?_
 refine Does.region ?_
 refine Oks.cont (Q := fun fr st' => Jfo st1 st' ∧ FcF gl id1 fr) ?r0 ?t0
 case r0 => as_aux_lemma =>
  generalize f.cells = cs at ho hs
  simp [JK, V.cells, ho, Ql, hid1, hs]
  exact ⟨rfl, by simp, by simp, by simp⟩
 case t0 => as_aux_lemma =>
 rintro fr st' ⟨hst', hds, hg, h1⟩
 rw [show st' = st1 from hst']
 clear hst'
 simp only [andThen]
 repeat refine Does.seq ?_
 refine Does.mono (Q := HdQ gl id1 st1 (Jb4 f) (JdD f) (JcE f)) ?head ?body
 case head => as_aux_lemma =>
  unfold Jb4
  have e3 : ∀ kk, Jf Tryz.prog kk .gtr 5 (.int .u8 (f.kind : Int)) (.int .u8 3) = some (.bool (!decide (f.kind ≤ 3))) := fun kk => by
   have := JeJ (P := Tryz.prog) (kk := kk) (T := 5) (q := .u8) (c := f.kind) (m := 3) (k := 3) rfl
   rw [this]
   congr 2
   by_cases h : f.kind ≤ 3
   ·rw [decide_eq_true h, decide_eq_false (by omega)]; rfl
   ·rw [decide_eq_false h, decide_eq_true (by omega)]; rfl
  have e0 : ∀ kk, Jf Tryz.prog kk .neq 5 (.int .u8 (f.kind : Int)) (.int .u8 0) = some (.bool (!decide (f.kind = 0))) := fun kk => Jgf rfl
  have el : ∀ kk, Jf Tryz.prog kk .neq 3 (.int .i64 (f.names.length : Int)) (.int .i64 (f.kids.length : Int)) = some (.bool (!decide (f.names.length = f.kids.length))) := fun kk => Jgf rfl
  have en : ∀ kk, Jf Tryz.prog kk .eql 3 (.int .i64 (f.names.length : Int)) (.int .i64 0) = some (.bool (decide (f.names.length = 0))) := fun kk => JdR rfl
  have er : ∀ kk, Jf Tryz.prog kk .eql 3 (.int .i64 f.rest) (.int .i64 0) = some (.bool (decide (f.rest = 0))) := fun kk => QP
  have eb : ∀ kk, Jf Tryz.prog kk .eql 3 (.int .i64 f.beside) (.int .i64 0) = some (.bool (decide (f.beside = 0))) := fun kk => QP
  obtain ⟨v, st2, hc, rfl, hk2⟩ := JpJ gl st1 f hok
  have hc := J1 hc
  have b2 : st2.box.get id1 = some (.cells f.cells 47 true (some 0)) := by rw [hk2.box _ hct]; exact b1
  have m2 := Jb (P := Tryz.prog) (off := 2) a23 z23 b2 rfl
  have m4 := Jb (P := Tryz.prog) (off := 4) a3 z3 b2 rfl
  have m5 := Jb (P := Tryz.prog) (off := 5) a3 z3 b2 rfl
  generalize hH : JdD f = H
  unfold JdD at hH
  unfold Jjr
  generalize hR : (Q9 f.names && Jjs f) = R
  generalize JcE f = D at hc
  generalize decide (f.kind ≤ 3) = k3 at e3 hH
  generalize decide (f.kind = 0) = k0 at e0 hH
  generalize decide (f.names.length = f.kids.length) = ll at el hH
  generalize decide (f.names.length = 0) = nz at en
  generalize decide (f.rest = 0) = rz at er
  generalize decide (f.beside = 0) = bz at eb
  generalize f.known = kn at l0 hH
  generalize (f.kind : Int) = ki at l1 e3 e0
  generalize (f.names.length : Int) = nl at lx el en
  generalize (f.kids.length : Int) = kl at lk el
  generalize f.cells = cs at hc l38
  generalize f.nv = nv at l2 m2 lx
  generalize f.kv = kv at l3 lk
  clear hR hok
  refine Does.block ?_
  repeat refine Does.seq ?_
  refine Does.region ?_
  refine Oks.cut 13 (FcQ gl id1 18 st1 (!k3 || (!kn && !k0))) ?c1 ?c2
  case c1 => as_aux_lemma =>
   simp only [List.take]
   cases k3 with
   | false =>
    simp [h1, f1, l1, e3]
    exact ⟨rfl, ⟨by simp [hds], by simp [hg], by simp [h1]⟩, by simp⟩
   | true =>
    cases kn with
    | true =>
     simp [h1, f1, l1, e3, f0, l0]
     exact ⟨rfl, ⟨by simp [hds], by simp [hg], by simp [h1]⟩, by simp⟩
    | false =>
     simp [h1, f1, l1, e3, f0, l0, e0]
     exact ⟨rfl, ⟨by simp [hds], by simp [hg], by simp [h1]⟩, by simp⟩
  case c2 => as_aux_lemma =>
  clear hds hg h1
  rintro fr st' ⟨hst', ⟨hds, hg, h1⟩, h18⟩
  rw [show st' = st1 from hst']
  clear hst'
  simp only [List.drop]
  have hH2 : H = (!(!k3 || (!kn && !k0)) && ll) := by rw [← hH]; cases k3 <;> cases kn <;> cases k0 <;> rfl
  clear hH
  generalize (!k3 || (!kn && !k0)) = bad at h18 hH2
  refine Oks.cont (Q := FcQ gl id1 5 st1 (!H)) ?c3 ?c4
  case c3 => as_aux_lemma =>
   subst hH2
   cases bad with
   | true =>
    simp [h18]
    exact ⟨rfl, ⟨by simp [hds], by simp [hg], by simp [h1]⟩, by simp⟩
   | false =>
    simp [h18, h1, f2, l2, f3, l3, lx, lk, el]
    exact ⟨rfl, ⟨by simp [hds], by simp [hg], by simp [h1]⟩, by simp⟩
  case c4 => as_aux_lemma =>
  clear hds hg h1 h18 hH2
  rintro fr st' ⟨hst', ⟨hds, hg, h1⟩, h5⟩
  rw [show st' = st1 from hst']
  clear hst'
  simp only [andThen]
  repeat refine Does.seq ?_
  cases H with
  | false =>
   refine Does.condT (by simp [h5]) ?_
   repeat refine Does.seq ?_
   refine Does.region ?_
   simp
   refine Does.ret ?_
   simp only [inBlock]
   exact .inl ⟨rfl, .refl _, by simp [hds], by simp⟩
  | true =>
  refine Does.condF (by simp [h5]) ?_
  repeat refine Does.seq ?_
  refine Does.region ?_
  cases D with
  | true =>
   simp [h1, l38, hg, Jp hk28, hc]
   repeat refine Does.seq ?_
   refine Does.condF (by simp) ?_
   refine Does.skip ?_
   simp only [inBlock]
   exact .inr ⟨rfl, hk2, ⟨by simp [hds], by simp [hg], by simp [h1]⟩, rfl, rfl⟩
  | false =>
   simp [h1, l38, hg, Jp hk28, hc]
   repeat refine Does.seq ?_
   refine Does.condT (by simp) ?_
   repeat refine Does.seq ?_
   refine Does.region ?_
   cases nz with
   | false =>
    simp [h1, f2, m2, lx, en]
    refine Does.ret ?_
    simp only [inBlock]
    exact .inl ⟨rfl, hk2, by simp [hds], by simp⟩
   | true =>
    cases rz with
    | false =>
     simp [h1, f2, m2, lx, en, f4, m4, er]
     refine Does.ret ?_
     simp only [inBlock]
     exact .inl ⟨rfl, hk2, by simp [hds], by simp⟩
    | true =>
     simp [h1, f2, m2, lx, en, f4, m4, er, f5, m5, eb]
     refine Does.ret ?_
     simp only [inBlock]
     exact .inl ⟨rfl, hk2, by simp [hds], by simp⟩
 case body => as_aux_lemma =>
  clear hds hg h1 l0 l1 l2 l3 l38
  rintro e fr st2 (⟨rfl, hk, hds, h2⟩ | ⟨rfl, hk, ⟨hds, hg, h1⟩, hH, hD⟩)
  ·simp only [andThen]
   simp [hds, h2]
   exact hk1.trans hk
  simp only [andThen]
  have b2 : st2.box.get id1 = some (.cells f.cells 47 true (some 0)) := by rw [hk.box _ hct]; exact b1
  have hct2 : id1 < st2.ctr := Nat.lt_of_lt_of_le hct hk.ctr
  have hk12 := hk1.trans hk
  have l2 := Jb (P := Tryz.prog) (off := 2) a23 z23 b2 rfl
  rw [show Jb4 f = (Q9 f.names && Jjs f) from by unfold Jb4; rw [hH, hD]; rfl]
  generalize hA : Q9 f.names = A
  repeat refine Does.seq ?_
  refine Does.region ?_
  simp [h1, f2, l2, lx]
  repeat refine Does.seq ?_
  refine Does.mono (Q := Jqb gl id1 st2 A) ?loop ?tail
  case loop => as_aux_lemma =>
   refine Does.block (Does.up f.names.length (fun i fr st' => Keep st2 st' ∧ FcF gl id1 fr ∧ Fr.at fr 47 = f.nv ∧ Fr.at fr 48 = .int .i64 (f.names.length : Int) ∧ Fr.at fr 49 = .int .i64 (i : Int) ∧ i ≤ f.names.length ∧ Jep f.names i) 0 ?init ?J5 ?step)
   case init => exact ⟨.refl st2, ⟨by simp [hds], by simp [hg], by simp [h1]⟩, by simp, by simp, by simp, Nat.zero_le _, fun j hj => absurd hj (Nat.not_lt_zero j)⟩
   case J5 => exact fun i fr st' h => h.2.2.2.2.2.1
   case step =>
    clear hds hg h1
    rintro i fr st' ⟨hk', ⟨hds, hg, h1⟩, h47, h48, h49, hi, hall⟩
    have elen : ∀ kk, Jf Tryz.prog kk .lss 3 (.int .i64 (i : Int)) (.int .i64 (f.names.length : Int)) = some (.bool (decide (i < f.names.length))) := fun kk => Jb2 rfl
    repeat refine Does.seq ?_
    refine Does.region ?_
    by_cases hlt : i < f.names.length
    rotate_left
    ·rw [decide_eq_false hlt] at elen
     simp [h48, h49, elen]
     repeat refine Does.seq ?_
     refine Does.condF (by simp) ?_
     refine Does.exit ?_
     simp only [inBlock, if_true, andThen]
     exact .inr ⟨rfl, hk', ⟨by simp [hds], by simp [hg], by simp [h1]⟩, by rw [← hA]; exact Jhz hall (by omega)⟩
    rw [decide_eq_true hlt] at elen
    obtain ⟨r, g1⟩ := hok.names.get (z := 1) (fun _ _ => rfl) Tryz.underlying23 z9 hlt
    have i1 := g1 .i64
    have hld := JoG f.names[i] r st'
    have hgd : f.names.getD i ⟨0, 0⟩ = f.names[i] := by rw [List.getD_eq_getElem?_getD, List.getElem?_eq_getElem hlt]; rfl
    have hstep := JgD hall
    have hnot := Jjq hlt
    have b3 : st'.box.get id1 = some (.cells f.cells 47 true (some 0)) := by rw [hk'.box _ hct2]; exact b2
    obtain ⟨v, st3, hc, rfl, hk3⟩ := Jnz gl hh st' f.names[i]
    have hc := J1 hc
    have b4 : st3.box.get id1 = some (.cells f.cells 47 true (some 0)) := by rw [hk3.box _ (Nat.lt_of_lt_of_le hct2 hk'.ctr)]; exact b3
    have m2 := Jb (P := Tryz.prog) (off := 2) a23 z23 b4 rfl
    have e0 : ∀ kk, Jf Tryz.prog kk .gtr 3 (.int .i64 (i : Int)) (.int .i64 0) = some (.bool (decide (0 < i))) := fun kk => JeJ rfl
    have hprev : decide (0 < i) = true → ∃ pa, Jd Tryz.prog 23 f.nv (.int .i64 ((i : Int) - 1)) = some pa ∧ Jz Tryz.prog st3 9 pa = some (.str (f.names.getD (i - 1) ⟨0, 0⟩)) := fun h => by
     have h0 : 0 < i := of_decide_eq_true h
     have hlt1 : i - 1 < f.names.length := by omega
     obtain ⟨r', g1'⟩ := hok.names.get (z := 1) (fun _ _ => rfl) Tryz.underlying23 z9 hlt1
     have i2 := g1' .i64
     have hcast : (((i - 1 : Nat)) : Int) = (i : Int) - 1 := by omega
     rw [hcast] at i2
     have hgd1 : f.names.getD (i - 1) ⟨0, 0⟩ = f.names[i - 1] := by rw [List.getD_eq_getElem?_getD, List.getElem?_eq_getElem hlt1]; rfl
     rw [hgd1]
     exact ⟨_, i2, JoG f.names[i - 1] r' st3⟩
    have w0 : IntKind.i64.wrap ((i : Int) - 1) = (i : Int) - 1 := Ju (by omega) (by omega)
    have w1 : IntKind.i64.wrap ((i : Int) + 1) = (i : Int) + 1 := Ju (by omega) (by omega)
    have hbad : JbW f.names i = (!JbM f.names[i] || (decide (0 < i) && leS f.names[i] (f.names.getD (i - 1) ⟨0, 0⟩))) := by unfold JbW; rw [hgd]
    rw [hbad] at hstep hnot
    clear hbad hgd
    have ele : ∀ kk, Jf Tryz.prog kk .leq 9 (.str f.names[i]) (.str (f.names.getD (i - 1) ⟨0, 0⟩)) = some (.bool (leS f.names[i] (f.names.getD (i - 1) ⟨0, 0⟩))) := fun kk => rfl
    generalize leS f.names[i] (f.names.getD (i - 1) ⟨0, 0⟩) = le at ele hstep hnot
    generalize f.names.getD (i - 1) ⟨0, 0⟩ = pv at ele hprev
    generalize JbM f.names[i] = pn at hc hstep hnot
    generalize sC f.names[i] ++ r = sr at hld i1
    generalize f.names[i] = s at hld hc ele
    generalize decide (0 < i) = d0 at e0 hprev hstep hnot
    simp [h48, h49, elen]
    repeat refine Does.seq ?_
    refine Does.condT (by simp) ?_
    refine Does.skip ?_
    simp
    repeat refine Does.seq ?_
    refine Does.block ?_
    repeat refine Does.seq ?_
    refine Does.region ?_
    simp [h47, h49, i1, hld]
    repeat refine Does.seq ?_
    refine Does.region ?_
    refine Oks.cont (Q := fun fr st'' => Jfo st3 st'' ∧ FcF gl id1 fr ∧ Fr.at fr 47 = f.nv ∧ Fr.at fr 48 = .int .i64 (f.names.length : Int) ∧ Fr.at fr 49 = .int .i64 (i : Int) ∧ Fr.at fr 70 = .bool (!pn || (d0 && le))) ?r8 ?t8
    case r8 => as_aux_lemma =>
     cases pn with
     | false =>
      simp [hg, Jp hk50, hc]
      exact ⟨rfl, ⟨by simp [hds], by simp [hg], by simp [h1]⟩, by simp [h47], by simp [h48], by simp [h49]⟩
     | true =>
      cases d0 with
      | false =>
       simp [hg, Jp hk50, hc, e0]
       exact ⟨rfl, ⟨by simp [hds], by simp [hg], by simp [h1]⟩, by simp [h47], by simp [h48], by simp [h49]⟩
      | true =>
       obtain ⟨pa, i2, hl2⟩ := hprev rfl
       simp [h1, f2, hg, Jp hk50, hc, e0, m2, JG, w0, i2, hl2, ele]
       exact ⟨rfl, ⟨by simp [hds], by simp [hg], by simp [h1]⟩, by simp [h47], by simp [h48], by simp [h49]⟩
    case t8 => as_aux_lemma =>
    clear hds hg h1 h47 h48 h49
    rintro fr st'' ⟨hst', ⟨hds, hg, h1⟩, h47, h48, h49, h70⟩
    rw [show st'' = st3 from hst']
    clear hst'
    simp only [andThen]
    repeat refine Does.seq ?_
    generalize (!pn || (d0 && le)) = bad at h70 hstep hnot
    cases bad with
    | true =>
     refine Does.condT (by simp [h70]) ?_
     repeat refine Does.seq ?_
     refine Does.region ?_
     simp
     refine Does.ret ?_
     simp only [andThen, inBlock]
     exact .inl ⟨rfl, hk'.trans hk3, by simp [hds], by simp, by rw [← hA]; exact hnot rfl⟩
    | false =>
     refine Does.condF (by simp [h70]) ?_
     refine Does.skip ?_
     simp only [andThen, inBlock]
     refine Does.region ?_
     simp [h49, JD, w1]
     exact ⟨i + 1, by omega, hk'.trans hk3, ⟨by simp [hds], by simp [hg], by simp [h1]⟩, by simp [h47], by simp [h48], by simp, by omega, hstep rfl⟩
  case tail => as_aux_lemma =>
   clear hds hg h1
   rintro e fr st3 (⟨rfl, hk', hds, h2, rfl⟩ | ⟨rfl, hk', ⟨hds, hg, h1⟩, rfl⟩)
   ·simp only [andThen]
    simp [hds, h2]
    exact hk12.trans hk'
   simp only [andThen, Bool.true_and]
   have b3 : st3.box.get id1 = some (.cells f.cells 47 true (some 0)) := by rw [hk'.box _ hct2]; exact b2
   have m2 := Jb (P := Tryz.prog) (off := 2) a23 z23 b3 rfl
   have m4 := Jb (P := Tryz.prog) (off := 4) a3 z3 b3 rfl
   have m5 := Jb (P := Tryz.prog) (off := 5) a3 z3 b3 rfl
   have hkk := hk12.trans hk'
   unfold Jjs
   have r2 : ∀ kk, Jf Tryz.prog kk .eql 3 (.int .i64 f.rest) (.int .i64 2) = some (.bool (decide (f.rest = 2))) := fun kk => QP
   have r0 : ∀ kk, Jf Tryz.prog kk .eql 3 (.int .i64 f.rest) (.int .i64 0) = some (.bool (decide (f.rest = 0))) := fun kk => QP
   have r1 : ∀ kk, Jf Tryz.prog kk .eql 3 (.int .i64 f.rest) (.int .i64 1) = some (.bool (decide (f.rest = 1))) := fun kk => QP
   have q0 : ∀ kk, Jf Tryz.prog kk .eql 3 (.int .i64 f.beside) (.int .i64 0) = some (.bool (decide (f.beside = 0))) := fun kk => QP
   have qg : ∀ kk, Jf Tryz.prog kk .geq 3 (.int .i64 f.beside) (.int .i64 0) = some (.bool (decide (0 ≤ f.beside))) := fun kk => Qr
   have ql : ∀ kk, Jf Tryz.prog kk .leq 3 (.int .i64 f.beside) (.int .i64 (f.names.length : Int)) = some (.bool (decide (f.beside ≤ (f.names.length : Int)))) := fun kk => JaU
   generalize decide (f.rest = 2) = d2 at r2
   generalize decide (f.rest = 0) = d0 at r0
   generalize decide (f.rest = 1) = d1 at r1
   generalize decide (f.beside = 0) = e0 at q0
   generalize decide (0 ≤ f.beside) = eg at qg
   generalize decide (f.beside ≤ (f.names.length : Int)) = el at ql
   generalize (f.names.length : Int) = nl at lx ql
   generalize f.nv = nv at m2 lx
   repeat refine Does.seq ?_
   refine Does.region ?_
   cases d2 with
   | true =>
    simp [h1, f4, m4, r2]
    repeat refine Does.seq ?_
    refine Does.condT (by simp) ?_
    repeat refine Does.seq ?_
    refine Does.region ?_
    cases eg with
    | false =>
     simp [h1, f5, m5, qg]
     refine Does.ret ?_
     simp [hds]
     exact hkk
    | true =>
     simp [h1, f5, m5, qg, f2, m2, lx, ql]
     refine Does.ret ?_
     simp [hds]
     exact hkk
   | false =>
    simp [h1, f4, m4, r2]
    repeat refine Does.seq ?_
    refine Does.condF (by simp) ?_
    refine Does.skip ?_
    simp
    repeat refine Does.seq ?_
    refine Does.region ?_
    cases d0 with
    | true =>
     simp [h1, f4, m4, r0, f5, m5, q0]
     refine Does.ret ?_
     simp [hds]
     exact hkk
    | false =>
     cases d1 with
     | false =>
      simp [h1, f4, m4, r0, r1]
      refine Does.ret ?_
      simp [hds]
      exact hkk
     | true =>
      simp [h1, f4, m4, r0, r1, f5, m5, q0]
      refine Does.ret ?_
      simp [hds]
      exact hkk
end Go.Vm
namespace Go.Vm
open Go Go.Proofs Go.Pa
attribute [local simp] Oks Qe Je Jk vop Jq Jx ev evs toV andThen inBlock Jj Fr.dsTo Fr.glTo Fr.toNone Jg Jh Ji J7 Jc JF Jt V.undef JX Qq QJ
variable [Memo] [NY]
end Go.Vm
namespace Go.Vm
open Go Go.Proofs Go.Pa
attribute [local simp] Oks Qe Je Jk vop Jq Jx ev evs toV andThen inBlock Jj Fr.dsTo Fr.glTo Fr.toNone Jg Jh Ji J7 Jc JF Jt V.undef JX Qq QJ
theorem fl2 (f : Fw) (r : List V) (st : St) : Jz Tryz.prog st 23 (.cp ((f.cells ++ r).drop 2)) = some f.nv := by
 simp only [Jz, QQ, a23, z23]; rfl
variable [Memo] [NY]
end Go.Vm
namespace Go.Vm
open Go Go.Proofs Go.Pa
attribute [local simp] Oks Qe Je Jk vop Jq Jx ev evs toV andThen inBlock Jj Fr.dsTo Fr.glTo Fr.toNone Jg Jh Ji J7 Jc JF Jt V.undef JX Qq QJ
structure Ns (st : St) (x : V) (l : List Int) : Prop where
 len : QY Tryz.prog 45 x = some (.int .i64 (l.length : Int))
 get : ∀ (j : Nat) (h : j < l.length), ∃ a, (∀ k, Jd Tryz.prog 45 x (.int k (j : Int)) = some a) ∧ Jz Tryz.prog st 3 a = some (.int .i64 l[j])
theorem Ns.ms {st : St} {id off : Nat} {cap : Option Nat} {cs : List V} {e : TypeId} {fl : Bool} {fz : Option Nat} {l : List Int} (hb : st.box.get id = some (.cells cs e fl fz)) (h : ∀ (j : Nat) (hj : j < l.length), cs[off + j]? = some (.int .i64 l[j])) : Ns st (.ms id off l.length 1 cap) l := by
 refine ⟨by simp [QY, Tryz.underlying45], fun j hj => ⟨.ptr id (off + j), fun k => ?_, Jb a3 z3 hb (h j hj)⟩⟩
 have hblt : Nat.blt j l.length = true := by rw [JaI]; exact decide_eq_true hj
 simp only [Jd, Tryz.underlying45, Qn, z3, hblt, Nat.mul_one]
def Jns (l : List Int) (i : Nat) : Prop := ∀ j (h : j < l.length), j < i → l[j] = 1
def OnQ (st : St) (A : Bool) (e : AE) (fr' : Fr) (st' : St) : Prop := Jfo st st' ∧ fr'.ds = [] ∧ ((e = AE.ret ∧ (∃ r : Nat, Fr.at fr' 4 = .int .i64 (r : Int)) ∧ A = true) ∨ (e = AE.normal ∧ A = false))
variable [Memo] [NY]
theorem Jl7 (gl : Gl) (st : St) (n : Int) : W Tryz.prog (.call gl 57 [.int .i64 n]) st = .call (.val (.bool (!decide (n = 1))) st) := by
 have e1 : ∀ kk, Jf Tryz.prog kk .neq 3 (.int .i64 n) (.int .i64 1) = some (.bool (!decide (n = 1))) := fun kk => JcV
 generalize decide (n = 1) = d at e1
 refine JbD (NY.no _ rfl rfl rfl _ _) Tryz.func57 rfl (by kernel_rfl) ?_
 repeat refine Does.seq ?_
 refine Does.region ?_
 simp
 repeat refine Does.seq ?_
 refine Does.region ?_
 simp [e1]
 refine Does.ret ?_
 simp []
set_option maxRecDepth 100000 in
theorem Jjt (gl : Gl) (st : St) (x : V) (l : List Int) (hx : Ns st x l) (hl : l.length < 1000000) :
  ∃ v st', W Tryz.prog (.call gl 75 [x, .fn 57 [] []]) st = .call (.val v st') ∧ (∃ r : Int, v = .int .i64 r ∧ decide (0 ≤ r) = l.any (fun n => !decide (n = 1))) ∧ Jfo st st' := by
 have hk31 : JN Tryz.prog 57 = true := by kernel_rfl
 have lx := hx.len
 refine JaK (NY.no _ rfl rfl rfl _ _) Tryz.func75 rfl (by kernel_rfl) ?_
 repeat refine Does.seq ?_
 refine Does.region ?_
 simp
 repeat refine Does.seq ?_
 refine Does.region ?_
 simp [lx]
 generalize hA : l.any (fun n => !decide (n = 1)) = A
 refine Does.mono (Q := OnQ st A) ?loop ?tail
 case tail => as_aux_lemma =>
  rintro e fr' st' ⟨hst', hds, ⟨rfl, ⟨r, h4⟩, hc⟩ | ⟨rfl, hc⟩⟩
  ·simp only [andThen]
   rw [show st' = st from hst']
   simp [hds, h4, hc]
   exact rfl
  ·simp only [andThen]
   rw [show st' = st from hst']
   repeat refine Does.seq ?_
   refine Does.region ?_
   simp
   refine Does.ret ?_
   simp [hds, hc]
   exact rfl
 case loop => as_aux_lemma =>
  refine Does.block (Does.up l.length (fun i fr st' => Jfo st st' ∧ fr.ds = [] ∧ fr.gl = gl ∧ Fr.at fr 0 = x ∧ Fr.at fr 1 = .fn 57 [] [] ∧ Fr.at fr 7 = .int .i64 (l.length : Int) ∧ Fr.at fr 8 = .int .i64 (i : Int) ∧ i ≤ l.length ∧ Jns l i) 0 ?init ?J5 ?step)
  case init => exact ⟨rfl, by simp, by simp, by simp, by simp, by simp, by simp, Nat.zero_le _, fun j _ h => absurd h (Nat.not_lt_zero j)⟩
  case J5 => exact fun i fr st' h => h.2.2.2.2.2.2.2.1
  case step =>
   rintro i fr st' ⟨hst', hds, hg, h0, h1, h7, h8, hi, hall⟩
   rw [show st' = st from hst']
   clear hst'
   have elen : ∀ kk, Jf Tryz.prog kk .lss 3 (.int .i64 (i : Int)) (.int .i64 (l.length : Int)) = some (.bool (decide (i < l.length))) := fun kk => Jb2 rfl
   repeat refine Does.seq ?_
   refine Does.region ?_
   by_cases hlt : i < l.length
   rotate_left
   ·rw [decide_eq_false hlt] at elen
    simp [h7, h8, elen]
    repeat refine Does.seq ?_
    refine Does.condF (by simp) ?_
    refine Does.exit ?_
    simp only [inBlock, if_true, andThen]
    refine ⟨rfl, by simp [hds], .inr ⟨rfl, ?_⟩⟩
    rw [← hA, List.any_eq_false]
    intro n hn
    obtain ⟨j, hj, rfl⟩ := List.getElem_of_mem hn
    rw [hall j hj (by omega)]; simp
   ·rw [decide_eq_true hlt] at elen
    obtain ⟨a, g1, hld⟩ := hx.get i hlt
    have i1 := g1 .i64
    have hc := J1 (Jl7 gl st l[i])
    have hstep : decide (l[i] = 1) = true → Jns l (i + 1) := fun h j hj hji => by
     by_cases he : j = i
     ·subst he; exact of_decide_eq_true h
     ·exact hall j hj (by omega)
    have hnot : decide (l[i] = 1) = false → l.any (fun n => !decide (n = 1)) = true := fun h => by
     rw [List.any_eq_true]
     exact ⟨l[i], List.getElem_mem hlt, by rw [h]; rfl⟩
    generalize decide (l[i] = 1) = d at hc hstep hnot
    generalize l[i] = n at hc hld
    have w1 : IntKind.i64.wrap ((i : Int) + 1) = (i : Int) + 1 := Ju (by omega) (by omega)
    simp [h7, h8, elen]
    repeat refine Does.seq ?_
    refine Does.condT (by simp) ?_
    refine Does.skip ?_
    simp
    repeat refine Does.seq ?_
    refine Does.block ?_
    repeat refine Does.seq ?_
    refine Does.region ?_
    simp [h8]
    repeat refine Does.seq ?_
    refine Does.region ?_
    simp [h0, h1, i1, hld, hg, Jp hk31, hc]
    repeat refine Does.seq ?_
    cases d with
    | false =>
     refine Does.condT (by simp) ?_
     repeat refine Does.seq ?_
     refine Does.region ?_
     simp
     refine Does.ret ?_
     simp only [andThen, inBlock]
     exact ⟨rfl, by simp [hds], .inl ⟨rfl, ⟨i, by simp⟩, by rw [← hA]; exact hnot rfl⟩⟩
    | true =>
     refine Does.condF (by simp) ?_
     refine Does.skip ?_
     simp only [andThen, inBlock]
     refine Does.region ?_
     simp [h8, JD, w1]
     exact ⟨i + 1, by omega, rfl, by simp [hds], by simp [hg], by simp [h0], by simp [h1], by simp [h7], by simp, by omega, hstep rfl⟩
theorem Jh8 (gl : Gl) (st : St) (x : V) (l : List Int) (hx : Ns st x l) (hl : l.length < 1000000) :
  ∃ v st', W Tryz.prog (.call gl 56 [x, .fn 57 [] []]) st = .call (.val v st') ∧ v = .bool (l.any (fun n => !decide (n = 1))) ∧ Jfo st st' := by
 have hk51 : JN Tryz.prog 75 = true := by kernel_rfl
 obtain ⟨v, st1, hc, ⟨r, rfl, hr⟩, hk1⟩ := Jjt gl st x l hx hl
 have hc := J1 hc
 generalize l.any (fun n => !decide (n = 1)) = A at hr
 refine JaK (NY.no _ rfl rfl rfl _ _) Tryz.func56 rfl (by kernel_rfl) ?_
 repeat refine Does.seq ?_
 refine Does.region ?_
 simp
 repeat refine Does.seq ?_
 refine Does.region ?_
 have eg : ∀ kk, Jf Tryz.prog kk .geq 3 (.int .i64 r) (.int .i64 0) = some (.bool A) := fun kk => by rw [Qr, ← hr]
 simp [Jp hk51, hc, eg]
 refine Does.ret ?_
 simp
 exact hk1
end Go.Vm
namespace Go.Vm
open Go Go.Proofs Go.Pa
attribute [local simp] Oks Qe Je Jk vop Jq Jx ev evs toV andThen inBlock Jj Fr.dsTo Fr.glTo Fr.toNone Jg Jh Ji J7 Jc JF Jt V.undef JX Qq QJ
def JeT (n i : Nat) (k : Int) : Bool := decide ((i : Int) < k) && decide (k < (n : Int))
def Jeq (n i : Nat) (f : Fw) : Bool := Jb4 f && f.kids.all (JeT n i)
def Jc8 (l : List Fw) : Bool := (List.range l.length).all fun i => match l[i]? with
 | some f => Jeq l.length i f
 | none => true
def Qw (l : List Fw) : List Int := l.flatMap Fw.kids
def JbA : List Fw → Bool
 | [] => false
 | f :: _ => JcE f
def stC (n : Nat) (K : List Int) : List Int := (List.range n).map fun (m : Nat) => ((K.count (m : Int) : Nat) : Int)
def Jfn (l : List Fw) : Bool := JbA l && Jc8 l && !((stC l.length (Qw l)).drop 1).any (fun n => !decide (n = 1))
theorem JcF (n : Nat) (K : List Int) : (stC n K).length = n := by simp [stC]
theorem Jer {n : Nat} (K : List Int) {m : Nat} (h : m < n) : (stC n K)[m]? = some ((K.count (m : Int) : Nat) : Int) := by simp [stC, h]
theorem Jon (n : Nat) (K : List Int) {k : Nat} (hk : k < n) : (stC n K).set k ((K.count (k : Int) : Nat) + 1 : Int) = stC n (K ++ [(k : Int)]) := by
 apply List.ext_getElem?
 intro m
 by_cases hm : m < n
 ·rw [Jer _ hm, List.getElem?_set, List.count_append]
  by_cases he : k = m
  ·subst he
   rw [if_pos rfl, if_pos (by rw [JcF]; exact hk)]
   simp
  ·rw [if_neg he, Jer _ hm]
   have : List.count (m : Int) [(k : Int)] = 0 := by
    rw [List.count_eq_zero]; simp; omega
   rw [this]; simp
 ·rw [List.getElem?_eq_none (by rw [List.length_set, JcF]; omega), List.getElem?_eq_none (by rw [JcF]; omega)]
theorem Joo (n : Nat) : (stC n []).map (V.int .i64) = List.replicate n (.int .i64 0) := by
 apply List.ext_getElem?
 intro m
 by_cases hm : m < n <;> simp [stC, hm]
def JfC (l : List Fw) (i : Nat) : Prop := ∀ j (h : j < l.length), j < i → Jeq l.length j l[j] = true
theorem JhA {l : List Fw} {i : Nat} (h : JfC l i) (hi : l.length ≤ i) : Jc8 l = true := by
 unfold Jc8
 rw [List.all_eq_true]
 intro j hj
 have hj := List.mem_range.1 hj
 rw [List.getElem?_eq_getElem hj]
 exact h j hj (by omega)
theorem Jnt {l : List Fw} {i : Nat} (hi : i < l.length) (h : Jeq l.length i l[i] = false) : Jc8 l = false := by
 unfold Jc8
 rw [Bool.eq_false_iff]
 intro hc
 rw [List.all_eq_true] at hc
 have := hc i (List.mem_range.2 hi)
 rw [List.getElem?_eq_getElem hi] at this
 simp only [h] at this
 cases this
theorem Jks {l : List Fw} {i : Nat} (h : JfC l i) (hi : i < l.length) (hb : Jeq l.length i l[i] = true) : JfC l (i + 1) := fun j hj hji => by
 by_cases he : j = i
 ·subst he; exact hb
 ·exact h j hj (by omega)
def JbX (st : St) (f : Fw) : St := { ctr := st.ctr + 1, box := (st.box.put st.ctr (.cells [.bool false, .int .u8 0, .nils, .nils, .int .i64 0, .int .i64 0] 47 true (some 0))).put st.ctr (.cells f.cells 47 true (some 0)) }
theorem Jes (st : St) (f : Fw) : Keep st (JbX st f) := Keep.put ((Keep.refl st).new _) (Nat.le_refl _) _
theorem Jfe (st : St) (f : Fw) : (JbX st f).box.get st.ctr = some (.cells f.cells 47 true (some 0)) := by unfold JbX; rw [Tr.get_put, if_pos rfl]
theorem Jff (st : St) (f : Fw) : st.ctr < (JbX st f).ctr := Nat.lt_succ_self _
theorem JdE (st : St) {f : Fw} (h : f.ok) : Jaq Tryz.prog { ctr := st.ctr + 1, box := st.box.put st.ctr (.cells [.bool false, .int .u8 0, .nils, .nils, .int .i64 0, .int .i64 0] 47 true (some 0)) } 47 (.ptr st.ctr 0) (.agg f.cells) = some (JbX st f) :=
 Jdq z38 (by rw [Tr.get_put, if_pos rfl]) rfl f.len6 (Fw.ones h)
def StB (idS n : Nat) (K : List Int) (st : St) : Prop := idS < st.ctr ∧ st.box.get idS = some (.cells ((stC n K).map (V.int .i64)) 3 true (some 0))
def MyI (gl : Gl) (x : V) (idS n i : Nat) (fr : Fr) : Prop := fr.ds = [] ∧ fr.gl = gl ∧ Fr.at fr 0 = x ∧ Fr.at fr 3 = .ms idS 0 n 1 (some n) ∧ Fr.at fr 21 = x ∧ Fr.at fr 22 = .int .i64 (n : Int) ∧ Fr.at fr 23 = .int .i64 (i : Int)
def MyQ (gl : Gl) (_x : V) (idS n : Nat) (st : St) (K : List Int) (A : Bool) (e : AE) (fr : Fr) (st' : St) : Prop :=
 Keep st st' ∧ ((e = AE.ret ∧ fr.ds = [] ∧ Fr.at fr 2 = .bool false ∧ A = false) ∨ (e = AE.normal ∧ fr.ds = [] ∧ fr.gl = gl ∧ Fr.at fr 3 = .ms idS 0 n 1 (some n) ∧ StB idS n K st' ∧ A = true))
def MyK (gl : Gl) (x : V) (idS n i : Nat) (st : St) (K : List Int) (A : Bool) (e : AE) (fr : Fr) (st' : St) : Prop :=
 Keep st st' ∧ ((e = AE.ret ∧ fr.ds = [] ∧ Fr.at fr 2 = .bool false ∧ A = false) ∨ (e = AE.normal ∧ MyI gl x idS n i fr ∧ StB idS n K st' ∧ A = true))
variable [Memo] [NY]
set_option maxHeartbeats 1000000 in
set_option maxRecDepth 100000 in
theorem JgE (gl : Gl) {aL : List V} (hh : Hits gl aL) (st : St) (x : V) (l : List Fw) (hx : Row Fw.cells x l) (hok : ∀ f ∈ l, f.ok) (hs : ∀ f ∈ l, f.small) (hl : l.length ≤ 60) :
  ∃ v st', W Tryz.prog (.call gl 33 [x]) st = .call (.val v st') ∧ v = .bool (Jfn l) ∧ Keep st st' := by
 have hk28 : JN Tryz.prog 54 = true := by kernel_rfl
 have hk29 : JN Tryz.prog 55 = true := by kernel_rfl
 have hk30 : JN Tryz.prog 56 = true := by kernel_rfl
 have lx := hx.len Tryz.underlying22
 refine JaK (NY.no _ rfl rfl rfl _ _) Tryz.func33 rfl (by kernel_rfl) ?_
 repeat refine Does.seq ?_
 refine Does.region ?_
 simp
 repeat refine Does.seq ?_
 have e0 : ∀ kk, Jf Tryz.prog kk .eql 3 (.int .i64 (l.length : Int)) (.int .i64 0) = some (.bool (decide (l.length = 0))) := fun kk => JdR rfl
 refine Does.mono (Q := fun e fr st' => e = AE.normal ∧ Keep st st' ∧ fr.ds = [] ∧ fr.gl = gl ∧ Fr.at fr 0 = x ∧ Fr.at fr 17 = .bool (!JbA l)) ?r1 ?t1
 case r1 => as_aux_lemma =>
  refine Does.region ?_
  cases l with
  | nil =>
   have lx' : QY Tryz.prog 22 x = some (.int .i64 0) := lx
   have e0' : ∀ kk, Jf Tryz.prog kk .eql 3 (.int .i64 0) (.int .i64 0) = some (.bool true) := e0
   simp [lx', e0', JbA]
   exact .refl _
  | cons f r =>
   obtain ⟨rr, g1⟩ := hx.get (z := 6) (fun f _ => f.len6) Tryz.underlying22 z38 (show 0 < (f :: r).length by simp)
   have i1 : Jd Tryz.prog 22 x (.int .i64 0) = some (.cp (f.cells ++ rr)) := g1 .i64
   have hld := Jkr f rr st
   obtain ⟨v, st2, hc, rfl, hk⟩ := JpJ gl st f (hok f (by simp))
   have hc := J1 hc
   rw [decide_eq_false (by simp)] at e0
   rw [show JbA (f :: r) = JcE f from rfl]
   generalize JcE f = d at hc
   generalize f.cells ++ rr = wr at i1 hld
   generalize f.cells = cs at hld hc
   generalize ((f :: r).length : Int) = ln at lx e0
   simp [lx, e0, i1, hld, Jp hk28, hc]
   exact hk
 case t1 => as_aux_lemma =>
 rintro e fr st1 ⟨rfl, hk1, hds, hg, h0, h17⟩
 simp only [andThen]
 repeat refine Does.seq ?_
 unfold Jfn
 generalize hAN : ((stC l.length (Qw l)).drop 1).any (fun n => !decide (n = 1)) = AN
 cases hH : JbA l with
 | false =>
  rw [hH] at h17
  refine Does.condT (by simp [h17]) ?_
  repeat refine Does.seq ?_
  refine Does.region ?_
  simp
  refine Does.ret ?_
  simp [hds]
  exact hk1
 | true =>
 rw [hH] at h17
 refine Does.condF (by simp [h17]) ?_
 refine Does.skip ?_
 simp only [andThen, Bool.true_and]
 repeat refine Does.seq ?_
 refine Does.region ?_
 have hmk : Je9 Tryz.prog st1 45 (.int .i64 (l.length : Int)) (.int .i64 (l.length : Int)) = some (.ms st1.ctr 0 l.length 1 (some l.length), { ctr := st1.ctr + 1, box := st1.box.put st1.ctr (.cells ((stC l.length []).map (V.int .i64)) 3 true (some 0)) }) := by
  obtain ⟨i, hi, hz1, hz2⟩ : ∃ i, Tryz.prog.info? 3 = some i ∧ i.size = 1 ∧ i.bytes ≤ 64 := ⟨_, rfl, by decide, by decide⟩
  have hz : QZ Tryz.prog 3 = some (.int .i64 0) := by kernel_rfl
  have b1 : Nat.ble (i.bytes * l.length) JA = true := Nat.ble_eq_true_of_le (Nat.le_trans (Nat.mul_le_mul hz2 hl) (by decide))
  have b2 : Nat.ble l.length JA = true := Nat.ble_eq_true_of_le (Nat.le_trans hl (by decide))
  have bl : Nat.ble l.length l.length = true := Nat.ble_eq_true_of_le (Nat.le_refl _)
  have hzb : Nat.beq (V.cells (.int .i64 0)).length i.size = true := by rw [hz1]; rfl
  have hz0 : Nat.beq i.size 0 = false := by rw [hz1]; rfl
  rw [Joo, ← JeD]
  simp only [Je9, Tryz.underlying45, hi, hz, Qn, b1, b2, bl, hz1]
  rfl
 have hSt : StB st1.ctr l.length [] { ctr := st1.ctr + 1, box := st1.box.put st1.ctr (.cells ((stC l.length []).map (V.int .i64)) 3 true (some 0)) } := ⟨Nat.lt_succ_self _, by rw [Tr.get_put, if_pos rfl]⟩
 have hk2 : Keep st1 { ctr := st1.ctr + 1, box := st1.box.put st1.ctr (.cells ((stC l.length []).map (V.int .i64)) 3 true (some 0)) } := (Keep.refl st1).new _
 have hidS : st1.ctr ≤ st1.ctr := Nat.le_refl _
 generalize ({ ctr := st1.ctr + 1, box := st1.box.put st1.ctr (.cells ((stC l.length []).map (V.int .i64)) 3 true (some 0)) } : St) = st2 at hmk hSt hk2
 generalize hidd : st1.ctr = idS at hmk hSt hidS
 simp [h0, lx, QI, hmk]
 repeat refine Does.seq ?_
 refine Does.region ?_
 simp [h0, lx]
 generalize hA : Jc8 l = A
 have hk12 := hk1.trans hk2
 refine Does.mono (Q := MyQ gl x idS l.length st1 (Qw l) A) ?loop ?tail
 case tail => as_aux_lemma =>
  clear hds hg h0 h17
  rintro e fr st' ⟨hk, ⟨rfl, hds, h2, hc⟩ | ⟨rfl, hds, hg, h3, ⟨_, hb⟩, hc⟩⟩
  ·simp only [andThen]
   simp [hds, h2, hc]
   exact hk1.trans hk
  ·simp only [andThen]
   have hsl : Jaf Tryz.prog 45 (.ms idS 0 l.length 1 (some l.length)) (some (.int .i64 1)) none = some (.ms idS (0 + 1 * 1) (l.length - 1) 1 (some (l.length - 1))) := by
    have hl1 : 1 ≤ l.length := by
     cases l with
     | nil => simp [JbA] at hH
     | cons f r => simp
    have hb1 : Nat.ble 1 l.length = true := Nat.ble_eq_true_of_le hl1
    have hbl : Jc0 l.length l.length (some l.length) = true := by simp [Jc0, Jbg]
    have h1c : JaC (.int .i64 1) = some 1 := rfl
    simp only [Jaf, Tryz.underlying45, J5, h1c, z3, hb1, hbl, Nat.beq_refl, Bool.and_true, JdS]
    rfl
   have hdl : ((stC l.length (Qw l)).drop 1).length = l.length - 1 := by rw [List.length_drop, JcF]
   have hns : Ns st' (.ms idS 1 ((stC l.length (Qw l)).drop 1).length 1 (some (l.length - 1))) ((stC l.length (Qw l)).drop 1) := Ns.ms hb (fun j hj => by
    have hj' : 1 + j < (stC l.length (Qw l)).length := by rw [hdl] at hj; rw [JcF]; omega
    rw [List.getElem?_map, List.getElem?_eq_getElem hj', List.getElem_drop]
    rfl)
   obtain ⟨v, st3, hc3, rfl, hst3⟩ := Jh8 gl st' _ _ hns (by rw [hdl]; omega)
   have hc3 := J1 hc3
   rw [show st3 = st' from hst3] at hc3
   rw [hdl] at hc3
   rw [hAN] at hc3
   simp only [Nat.mul_one, Nat.zero_add] at hsl
   repeat refine Does.seq ?_
   refine Does.region ?_
   simp [h3, hsl, hg, Jp hk30, hc3]
   refine Does.ret ?_
   simp [hds, hc]
   exact hk1.trans hk
 case loop => as_aux_lemma =>
  refine Does.block (Does.up l.length (fun i fr st' => Keep st1 st' ∧ MyI gl x idS l.length i fr ∧ StB idS l.length (Qw (l.take i)) st' ∧ (Qw (l.take i)).length ≤ i * 60 ∧ i ≤ l.length ∧ JfC l i) 0 ?init ?J5 ?step)
  case init => exact ⟨hk2, ⟨by simp [hds], by simp [hg], by simp [h0], by simp, by simp, by simp, by simp⟩, hSt, Nat.zero_le _, Nat.zero_le _, fun j _ h => absurd h (Nat.not_lt_zero j)⟩
  case J5 => exact fun i fr st' h => h.2.2.2.2.1
  case step =>
   clear hds hg h0 h17
   rintro i fr st' ⟨hk, ⟨hds, hg, h0, h3, h21, h22, h23⟩, hSB, hKl, hi, hall⟩
   have elen : ∀ kk, Jf Tryz.prog kk .lss 3 (.int .i64 (i : Int)) (.int .i64 (l.length : Int)) = some (.bool (decide (i < l.length))) := fun kk => Jb2 rfl
   repeat refine Does.seq ?_
   refine Does.region ?_
   by_cases hlt : i < l.length
   rotate_left
   ·rw [decide_eq_false hlt] at elen
    simp [h22, h23, elen]
    repeat refine Does.seq ?_
    refine Does.condF (by simp) ?_
    refine Does.exit ?_
    simp only [inBlock, if_true, andThen]
    rw [List.take_of_length_le (by omega)] at hSB
    exact ⟨hk, .inr ⟨rfl, by simp [hds], by simp [hg], by simp [h3], hSB, by rw [← hA]; exact JhA hall (by omega)⟩⟩
   rw [decide_eq_true hlt] at elen
   obtain ⟨r, g1⟩ := hx.get (z := 6) (fun f _ => f.len6) Tryz.underlying22 z38 hlt
   have i1 := g1 .i64
   have hm := List.getElem_mem hlt
   have hfok := hok _ hm
   have hfs := hs _ hm
   have hld := Jkr l[i] r st'
   have hpk := Jes st' l[i]
   have hpb := Jfe st' l[i]
   have hps := JdE st' hfok
   have hpc := Jff st' l[i]
   have hSB1 : StB idS l.length (Qw (l.take i)) (JbX st' l[i]) := ⟨Nat.lt_of_lt_of_le hSB.1 hpk.ctr, by rw [hpk.box _ hSB.1]; exact hSB.2⟩
   have hstep := Jks hall hlt
   have hnot := Jnt hlt
   have htk : Qw (l.take (i + 1)) = Qw (l.take i) ++ l[i].kids := by
    unfold Qw
    rw [List.take_add_one, List.getElem?_eq_getElem hlt, List.flatMap_append]
    simp
   rw [show Jeq l.length i l[i] = (Jb4 l[i] && l[i].kids.all (JeT l.length i)) from rfl] at hstep hnot
   have w1 : IntKind.i64.wrap ((i : Int) + 1) = (i : Int) + 1 := Ju (by omega) (by omega)
   simp [h22, h23, elen]
   repeat refine Does.seq ?_
   refine Does.condT (by simp) ?_
   refine Does.skip ?_
   simp
   repeat refine Does.seq ?_
   generalize JbX st' l[i] = st3 at hpk hpb hps hpc hSB1
   generalize hid5 : st'.ctr = id5 at hpb hps hpc
   generalize l[i] = f at i1 hld hpb hps hfok hfs hstep hnot htk
   refine Does.block ?_
   repeat refine Does.seq ?_
   refine Does.region ?_
   refine Oks.cont (Q := fun fr st'' => Jfo st3 st'' ∧ MyI gl x idS l.length i fr ∧ Fr.at fr 4 = .int .i64 (i : Int) ∧ Fr.at fr 5 = .ptr id5 0) ?r6 ?t6
   case r6 => as_aux_lemma =>
    generalize f.cells ++ r = wr at i1 hld
    generalize f.cells = cs at hld hps
    simp [h21, h23, i1, hld, JK, Jc6, V.cells, JZ, Ql, QI, hid5, hps]
    exact ⟨rfl, by simp [hds], by simp [hg], by simp [h0], by simp [h3], by simp [h21], by simp [h22], by simp [h23]⟩
   case t6 => as_aux_lemma =>
   clear hds hg h0 h3 h21 h22 h23
   rintro fr st'' ⟨hst', ⟨hds, hg, h0, h3, h21, h22, h23⟩, h4, h5⟩
   rw [show st'' = st3 from hst']
   clear hst'
   simp only [andThen]
   have l38 := Jli hpb
   obtain ⟨v, st4, hc, rfl, hk4⟩ := Jom gl hh st3 f hfok (by have := hfs.names; omega)
   have hc := J1 hc
   have hSB2 : StB idS l.length (Qw (l.take i)) st4 := ⟨Nat.lt_of_lt_of_le hSB1.1 hk4.ctr, by rw [hk4.box _ hSB1.1]; exact hSB1.2⟩
   have b4 : st4.box.get id5 = some (.cells f.cells 47 true (some 0)) := by rw [hk4.box _ hpc]; exact hpb
   have hkk := (hk.trans hpk).trans hk4
   repeat refine Does.seq ?_
   refine Does.region ?_
   refine Oks.cont (Q := fun fr st'' => Jfo st4 st'' ∧ MyI gl x idS l.length i fr ∧ Fr.at fr 4 = .int .i64 (i : Int) ∧ Fr.at fr 5 = .ptr id5 0 ∧ Fr.at fr 30 = .bool (!Jb4 f)) ?r7 ?t7
   case r7 => as_aux_lemma =>
    generalize f.cells = cs at l38 hc
    generalize Jb4 f = o at hc
    simp [h5, l38, hg, Jp hk29, hc]
    exact ⟨rfl, ⟨by simp [hds], by simp [hg], by simp [h0], by simp [h3], by simp [h21], by simp [h22], by simp [h23]⟩, by simp [h4]⟩
   case t7 => as_aux_lemma =>
   clear hds hg h0 h3 h21 h22 h23 h4 h5 hc
   rintro fr st'' ⟨hst', ⟨hds, hg, h0, h3, h21, h22, h23⟩, h4, h5, h30⟩
   rw [show st'' = st4 from hst']
   clear hst'
   simp only [andThen]
   repeat refine Does.seq ?_
   cases hO : Jb4 f with
   | false =>
    rw [hO] at h30 hnot
    refine Does.condT (by simp [h30]) ?_
    repeat refine Does.seq ?_
    refine Does.region ?_
    simp
    refine Does.ret ?_
    simp only [andThen, inBlock]
    exact ⟨hkk, .inl ⟨rfl, by simp [hds], by simp, by rw [← hA]; exact hnot rfl⟩⟩
   | true =>
   rw [hO] at h30 hnot hstep
   refine Does.condF (by simp [h30]) ?_
   refine Does.skip ?_
   simp only [andThen]
   simp only [Bool.true_and] at hnot hstep
   have lk := hfok.kids.len Tryz.underlying45
   have m3 := Jb (P := Tryz.prog) (off := 3) a36 z36 b4 rfl
   have f3 := fg3 id5
   repeat refine Does.seq ?_
   refine Does.region ?_
   refine Oks.cont (Q := fun fr st'' => Jfo st4 st'' ∧ MyI gl x idS l.length i fr ∧ Fr.at fr 4 = .int .i64 (i : Int) ∧ Fr.at fr 32 = f.kv ∧ Fr.at fr 33 = .int .i64 (f.kids.length : Int) ∧ Fr.at fr 34 = .int .i64 0) ?r9 ?t9
   case r9 => as_aux_lemma =>
    simp [h5, f3, m3, lk]
    exact ⟨rfl, ⟨by simp [hds], by simp [hg], by simp [h0], by simp [h3], by simp [h21], by simp [h22], by simp [h23]⟩, by simp [h4]⟩
   case t9 => as_aux_lemma =>
   clear hds hg h0 h3 h21 h22 h23 h4 h5 h30
   rintro fr st'' ⟨hst', ⟨hds, hg, h0, h3, h21, h22, h23⟩, h4, h32, h33, h34⟩
   rw [show st'' = st4 from hst']
   clear hst'
   simp only [andThen]
   repeat refine Does.seq ?_
   generalize hKA : f.kids.all (JeT l.length i) = KA at hnot hstep
   refine Does.mono (Q := MyK gl x idS l.length i st1 (Qw (l.take (i + 1))) KA) ?kids ?next
   case next => as_aux_lemma =>
    clear hds hg h0 h3 h21 h22 h23 h4 h32 h33 h34
    rintro e fr st5 ⟨hk5, ⟨rfl, hds, h2, hc⟩ | ⟨rfl, ⟨hds, hg, h0, h3, h21, h22, h23⟩, hSB5, hc⟩⟩
    ·simp only [andThen, inBlock]
     exact ⟨hk5, .inl ⟨rfl, hds, h2, by rw [← hA]; exact hnot hc⟩⟩
    ·simp only [andThen, inBlock]
     refine Does.region ?_
     simp [h23, JD, w1]
     refine ⟨i + 1, by omega, hk5, ⟨by simp [hds], by simp [hg], by simp [h0], by simp [h3], by simp [h21], by simp [h22], by simp⟩, hSB5, ?_, by omega, hstep hc⟩
     rw [htk, List.length_append]
     have := hfs.kids
     omega
   case kids => as_aux_lemma =>
    refine Does.block (Does.up f.kids.length (fun j fr st' => Keep st1 st' ∧ MyI gl x idS l.length i fr ∧ Fr.at fr 4 = .int .i64 (i : Int) ∧ Fr.at fr 32 = f.kv ∧ Fr.at fr 33 = .int .i64 (f.kids.length : Int) ∧ Fr.at fr 34 = .int .i64 (j : Int) ∧ StB idS l.length (Qw (l.take i) ++ f.kids.take j) st' ∧ j ≤ f.kids.length ∧ ∀ m (h : m < f.kids.length), m < j → JeT l.length i f.kids[m] = true) 0 ?init ?J5 ?step)
    case init => exact ⟨hkk, ⟨hds, hg, h0, h3, h21, h22, h23⟩, h4, h32, h33, h34, by simpa using hSB2, Nat.zero_le _, fun m _ h => absurd h (Nat.not_lt_zero m)⟩
    case J5 => exact fun i fr st' h => h.2.2.2.2.2.2.2.1
    case step =>
     clear hds hg h0 h3 h21 h22 h23 h4 h32 h33 h34 hSB2 hSB1 hpb hpk hps hk4 b4 m3 hkk hk hSB
     rintro j fr st' ⟨hk, ⟨hds, hg, h0, h3, h21, h22, h23⟩, h4, h32, h33, h34, hSB, hj, hkt⟩
     have ej : ∀ kk, Jf Tryz.prog kk .lss 3 (.int .i64 (j : Int)) (.int .i64 (f.kids.length : Int)) = some (.bool (decide (j < f.kids.length))) := fun kk => Jb2 rfl
     repeat refine Does.seq ?_
     refine Does.region ?_
     by_cases hjt : j < f.kids.length
     rotate_left
     ·rw [decide_eq_false hjt] at ej
      simp [h33, h34, ej]
      repeat refine Does.seq ?_
      refine Does.condF (by simp) ?_
      refine Does.exit ?_
      simp only [inBlock, if_true, andThen]
      rw [List.take_of_length_le (l := f.kids) (by omega), ← htk] at hSB
      refine ⟨hk, .inr ⟨rfl, ⟨by simp [hds], by simp [hg], by simp [h0], by simp [h3], by simp [h21], by simp [h22], by simp [h23]⟩, hSB, ?_⟩⟩
      rw [← hKA, List.all_eq_true]
      intro k hkm
      obtain ⟨m, hm, rfl⟩ := List.getElem_of_mem hkm
      exact hkt m hm (by omega)
     rw [decide_eq_true hjt] at ej
     obtain ⟨r', g2⟩ := hfok.kids.get (z := 1) (fun _ _ => rfl) Tryz.underlying45 z3 hjt
     have i2 := g2 .i64
     have hld2 := JoH f.kids[j] r' st'
     have wj : IntKind.i64.wrap ((j : Int) + 1) = (j : Int) + 1 := Ju (by omega) (by have := hfs.kids; omega)
     have hknext : JeT l.length i f.kids[j] = true → ∀ m (h : m < f.kids.length), m < j + 1 → JeT l.length i f.kids[m] = true := fun hb m hm hmj => by
      by_cases he : m = j
      ·subst he; exact hb
      ·exact hkt m hm (by omega)
     have hkno : JeT l.length i f.kids[j] = false → f.kids.all (JeT l.length i) = false := fun hb => by
      rw [Bool.eq_false_iff]
      intro hc
      rw [List.all_eq_true] at hc
      have := hc _ (List.getElem_mem hjt)
      rw [hb] at this; cases this
     have htj : f.kids.take (j + 1) = f.kids.take j ++ [f.kids[j]] := by
      rw [List.take_add_one, List.getElem?_eq_getElem hjt]; rfl
     have hKj : (Qw (l.take i) ++ f.kids.take j).length < 1000000 := by
      rw [List.length_append]
      have h1 : (f.kids.take j).length ≤ j := by simp; omega
      have := hfs.kids
      omega
     rw [hKA] at hkno
     have ele : ∀ kk, Jf Tryz.prog kk .leq 3 (.int .i64 f.kids[j]) (.int .i64 (i : Int)) = some (.bool (!decide ((i : Int) < f.kids[j]))) := fun kk => by
      rw [JaU]; congr 2
      by_cases h : (i : Int) < f.kids[j]
      ·rw [decide_eq_true h, decide_eq_false (by omega)]; rfl
      ·rw [decide_eq_false h, decide_eq_true (by omega)]; rfl
     have ege : ∀ kk, Jf Tryz.prog kk .geq 3 (.int .i64 f.kids[j]) (.int .i64 (l.length : Int)) = some (.bool (!decide (f.kids[j] < (l.length : Int)))) := fun kk => by
      rw [Qr]; congr 2
      by_cases h : f.kids[j] < (l.length : Int)
      ·rw [decide_eq_true h, decide_eq_false (by omega)]; rfl
      ·rw [decide_eq_false h, decide_eq_true (by omega)]; rfl
     have hkb : JeT l.length i f.kids[j] = (decide ((i : Int) < f.kids[j]) && decide (f.kids[j] < (l.length : Int))) := rfl
     generalize iC f.kids[j] ++ r' = kr at i2 hld2
     generalize f.kids[j] = k at hld2 hknext hkno htj ele ege hkb
     simp [h33, h34, ej]
     repeat refine Does.seq ?_
     refine Does.condT (by simp) ?_
     refine Does.skip ?_
     simp
     repeat refine Does.seq ?_
     refine Does.block ?_
     repeat refine Does.seq ?_
     refine Does.region ?_
     simp [h32, h34, i2, hld2]
     repeat refine Does.seq ?_
     refine Does.region ?_
     refine Oks.cont (Q := fun fr st'' => Jfo st' st'' ∧ MyI gl x idS l.length i fr ∧ Fr.at fr 4 = .int .i64 (i : Int) ∧ Fr.at fr 7 = .int .i64 k ∧ Fr.at fr 32 = f.kv ∧ Fr.at fr 33 = .int .i64 (f.kids.length : Int) ∧ Fr.at fr 34 = .int .i64 (j : Int) ∧ Fr.at fr 46 = .bool (!JeT l.length i k)) ?r12 ?t12
     case r12 => as_aux_lemma =>
      rw [hkb]
      generalize decide ((i : Int) < k) = d1 at ele
      generalize decide (k < (l.length : Int)) = d2 at ege
      cases d1 with
      | false =>
       simp [h4, ele]
       exact ⟨rfl, ⟨by simp [hds], by simp [hg], by simp [h0], by simp [h3], by simp [h21], by simp [h22], by simp [h23]⟩, by simp [h32], by simp [h33], by simp [h34]⟩
      | true =>
       simp [h0, h4, ele, lx, ege]
       exact ⟨rfl, ⟨by simp [hds], by simp [hg], by simp [h0], by simp [h3], by simp [h21], by simp [h22], by simp [h23]⟩, by simp [h32], by simp [h33], by simp [h34]⟩
     case t12 => as_aux_lemma =>
     clear hds hg h0 h3 h21 h22 h23 h4 h32 h33 h34 ele ege
     rintro fr st'' ⟨hst', ⟨hds, hg, h0, h3, h21, h22, h23⟩, h4, h7, h32, h33, h34, h46⟩
     rw [show st'' = st' from hst']
     clear hst'
     simp only [andThen]
     repeat refine Does.seq ?_
     cases hKB : JeT l.length i k with
     | false =>
      rw [hKB] at h46
      refine Does.condT (by simp [h46]) ?_
      repeat refine Does.seq ?_
      refine Does.region ?_
      simp
      refine Does.ret ?_
      simp only [andThen, inBlock]
      exact ⟨hk, .inl ⟨rfl, by simp [hds], by simp, hkno hKB⟩⟩
     | true =>
     rw [hKB] at h46 hkb
     obtain ⟨hik, hkn⟩ : (i : Int) < k ∧ k < (l.length : Int) := by
      have := hkb.symm
      simp only [Bool.and_eq_true, decide_eq_true_eq] at this
      exact this
     obtain ⟨m, rfl⟩ : ∃ m : Nat, k = (m : Int) := ⟨k.toNat, by omega⟩
     have hml : m < l.length := by omega
     refine Does.condF (by simp [h46]) ?_
     refine Does.skip ?_
     simp only [andThen]
     have hblt : Nat.blt m l.length = true := by rw [JaI]; exact decide_eq_true hml
     have i3 : Jd Tryz.prog 45 (.ms idS 0 l.length 1 (some l.length)) (.int .i64 (m : Int)) = some (.ptr idS m) := by
      simp only [Jd, Tryz.underlying45, Qn, z3, hblt, Nat.mul_one, Nat.zero_add]
     have hget : ((stC l.length (Qw (l.take i) ++ f.kids.take j)).map (V.int .i64))[m]? = some (.int .i64 (((Qw (l.take i) ++ f.kids.take j).count (m : Int) : Nat) : Int)) := by
      rw [List.getElem?_map, Jer _ hml]; rfl
     have hld3 := Jb (P := Tryz.prog) (off := m) a3 z3 hSB.2 hget
     have hcl := List.count_le_length (a := (m : Int)) (l := Qw (l.take i) ++ f.kids.take j)
     have wc : IntKind.i64.wrap ((((Qw (l.take i) ++ f.kids.take j).count (m : Int) : Nat) : Int) + 1) = (((Qw (l.take i) ++ f.kids.take j).count (m : Int) : Nat) : Int) + 1 := Ju (by omega) (by omega)
     have hst := JaM (P := Tryz.prog) (st := st') (t := 3) (off := m) (v := .int .i64 ((((Qw (l.take i) ++ f.kids.take j).count (m : Int) : Nat) : Int) + 1)) z3 hSB.2 (by rw [List.length_map, JcF]; exact hml) rfl
     rw [← List.map_set, Jon _ _ hml, List.append_assoc, ← htj] at hst
     have hSB3 : StB idS l.length (Qw (l.take i) ++ f.kids.take (j + 1)) { st' with box := st'.box.put idS (.cells ((stC l.length (Qw (l.take i) ++ f.kids.take (j + 1))).map (V.int .i64)) 3 true (some 0)) } := ⟨hSB.1, by rw [Tr.get_put, if_pos rfl]⟩
     have hk3 : Keep st1 { st' with box := st'.box.put idS (.cells ((stC l.length (Qw (l.take i) ++ f.kids.take (j + 1))).map (V.int .i64)) 3 true (some 0)) } := Keep.put hk (by omega) _
     generalize ({ st' with box := st'.box.put idS (.cells ((stC l.length (Qw (l.take i) ++ f.kids.take (j + 1))).map (V.int .i64)) 3 true (some 0)) } : St) = st6 at hst hSB3 hk3
     generalize (((Qw (l.take i) ++ f.kids.take j).count (m : Int) : Nat) : Int) = cn at hld3 wc hst
     repeat refine Does.seq ?_
     refine Does.region ?_
     simp [h3, h7, i3, hld3, JD, wc, QI, hst]
     repeat refine Does.seq ?_
     refine Does.region ?_
     simp [h34, JD, wj]
     exact ⟨j + 1, by omega, hk3, ⟨by simp [hds], by simp [hg], by simp [h0], by simp [h3], by simp [h21], by simp [h22], by simp [h23]⟩, by simp [h4], by simp [h32], by simp [h33], by simp, hSB3, by omega, hknext hKB⟩
end Go.Vm
namespace Go.Vm
open Go Go.Proofs Go.Pa
attribute [local simp] Oks Qe Je Jk vop Jq Jx ev evs toV andThen inBlock Jj Fr.dsTo Fr.glTo Fr.toNone Jg Jh Ji J7 Jc JF Jt V.undef JX Qq QJ
def JgF (n : Int) (m : Nat) (ks : List Int) : List Nat := (ks.filter fun k => decide (k = n)).map fun _ => m
def Jh9 (l : List Fw) (m : Nat) : List Int := match l[m]? with
 | some f => f.kids
 | none => []
def JgG (l : List Fw) (n : Int) (i : Nat) : List Nat := (List.range i).flatMap fun m => JgF n m (Jh9 l m)
def occ (l : List Fw) (n : Int) : List Nat := JgG l n l.length
def JpK : List Nat → Int
 | [i] => (i : Int)
 | _ => -1
def Jia (l : List Fw) (n : Int) : Int := JpK (occ l n)
theorem Jnu {l : List Fw} {n : Int} {i : Nat} (hi : i < l.length) : JgG l n (i + 1) = JgG l n i ++ JgF n i l[i].kids := by
 unfold JgG
 rw [List.range_succ, List.flatMap_append]
 simp [Jh9, hi]
variable [Memo] [NY]
end Go.Vm
namespace Go.Vm
open Go Go.Proofs Go.Pa
attribute [local simp] Oks Qe Je Jk vop Jq Jx ev evs toV andThen inBlock Jj Fr.dsTo Fr.glTo Fr.toNone Jg Jh Ji J7 Jc JF Jt V.undef JX Qq QJ
theorem Jlj : ∀ l : List S, Jaj (l.flatMap sC) = 2 * l.length + 1
 | [] => rfl
 | a :: l => by rw [List.flatMap_cons, show sC a ++ l.flatMap sC = .str a :: l.flatMap sC from rfl, Jaj, Jlj l]; simp only [vsz, List.length_cons]; omega
theorem Jcn {x : V} {l : List S} (h : Row sC x l) : vsz x ≤ 2 * l.length + 2 := by
 cases h with
 | nils => exact Nat.le_of_ble_eq_true rfl
 | sl l ex => show Jaj (l.flatMap sC) + 1 ≤ _; rw [Jlj]; omega
variable [Memo] [NY]
end Go.Vm
