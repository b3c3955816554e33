/- Facts: what a fact is; which are directories. -/
import Derived.Test.YtlholbhaajklhaaGreatDoorRz1
namespace Go.Vm
open Go Go.Proofs Go.Pa
attribute [local simp] Oks Qn Jh Jn vop Ju JG ev evs toV andThen inBlock Jm Fr.dsTo Fr.glTo Fr.toNone Jj Jk Jl Qj Jc JL Jv V.undef J5 QA QO
inductive Row {α : Type} (f : α → List V) : V → List α → Prop
 | nils : Row f .nils []
 | sl (l : List α) (ex : Bool) : Row f (.sl l.length (l.flatMap f) ex) l
theorem Row.one {α : Type} {f : α → List V} {x : V} {l : List α} (h : Row f x l) : JN x = true := by cases h <;> rfl
theorem Row.len {α : Type} {f : α → List V} {x : V} {l : List α} (h : Row f x l) {P : Program} {T e : TypeId} (hT : P.underlying T = some (.slice e)) : Q2 P T x = some (.int .i64 (l.length : Int)) := by
 cases h <;> simp [Q2, hT]
theorem Je7 {α : Type} {f : α → List V} {z : Nat} : ∀ (l : List α) (_ : ∀ a ∈ l, (f a).length = z) (i : Nat) (h : i < l.length), (l.flatMap f).drop (i * z) = f l[i] ++ (l.drop (i + 1)).flatMap f
 | [], _, i, h => by simp at h
 | a :: r, hz, 0, _ => by simp
 | a :: r, hz, i + 1, h => by
  have ha : (f a).length = z := hz a (by simp)
  rw [List.flatMap_cons, Nat.succ_mul, Nat.add_comm, ← List.drop_drop, show (f a ++ r.flatMap f).drop z = r.flatMap f from by rw [← ha]; simp, Je7 r (fun b hb => hz b (by simp [hb])) i (by simpa using h)]
  simp
theorem Row.get {α : Type} {f : α → List V} {z : Nat} {x : V} {l : List α} (h : Row f x l) (hz : ∀ a ∈ l, (f a).length = z) {P : Program} {T e : TypeId} (hT : P.underlying T = some (.slice e)) (he : J7 P e = some z) {i : Nat} (hi : i < l.length) :
  ∃ r, ∀ k, Je P T x (.int k (i : Int)) = some (.cp (f l[i] ++ r)) := by
 have hb : Nat.blt i l.length = true := by rw [Jbf]; exact decide_eq_true hi
 cases h with
 | nils => simp at hi
 | sl l ex => exact ⟨(l.drop (i + 1)).flatMap f, fun k => by simp only [Je, hT, QJ, he, hb]; rw [Je7 l hz i hi]⟩
structure Fw where
 known : Bool
 kind : Nat
 nv : V
 names : List S
 kv : V
 kids : List Int
 rest : Int
 beside : Int
def sC (s : S) : List V := [.str s]
def iC (n : Int) : List V := [.int .i64 n]
def Fw.cells (f : Fw) : List V := [.bool f.known, .int .u8 (f.kind : Int), f.nv, f.kv, .int .i64 f.rest, .int .i64 f.beside]
structure Fw.ok (f : Fw) : Prop where
 kind : f.kind < 256
 names : Row sC f.nv f.names
 kids : Row iC f.kv f.kids
structure Fw.small (f : Fw) : Prop where
 names : f.names.length ≤ 60
 kids : f.kids.length ≤ 60
 text : ∀ s ∈ f.names, s.n ≤ 300
theorem Fw.len6 (f : Fw) : f.cells.length = 6 := rfl
theorem z38 : J7 Tryz.prog 47 = some 6 := by kernel_rfl
theorem a38 : QU Tryz.prog 47 = some true := by kernel_rfl
theorem QG : Q4 Tryz.prog 47 = some (.agg [.bool false, .int .u8 0, .nils, .nils, .int .i64 0, .int .i64 0]) := by kernel_rfl
theorem z9 : J7 Tryz.prog 9 = some 1 := by kernel_rfl
theorem a9 : QU Tryz.prog 9 = some false := by kernel_rfl
theorem z3 : J7 Tryz.prog 3 = some 1 := by kernel_rfl
theorem a3 : QU Tryz.prog 3 = some false := by kernel_rfl
theorem z4 : J7 Tryz.prog 4 = some 1 := by kernel_rfl
theorem a4 : QU Tryz.prog 4 = some false := by kernel_rfl
theorem z5 : J7 Tryz.prog 5 = some 1 := by kernel_rfl
theorem a5 : QU Tryz.prog 5 = some false := by kernel_rfl
theorem z22 : J7 Tryz.prog 22 = some 1 := by kernel_rfl
theorem a22 : QU Tryz.prog 22 = some false := by kernel_rfl
theorem z23 : J7 Tryz.prog 23 = some 1 := by kernel_rfl
theorem a23 : QU Tryz.prog 23 = some false := by kernel_rfl
theorem z36 : J7 Tryz.prog 45 = some 1 := by kernel_rfl
theorem a36 : QU Tryz.prog 45 = some false := by kernel_rfl
theorem fg0 (id : Nat) : Jq Tryz.prog 47 (.ptr id 0) 0 = some (.ptr id 0) := by kernel_rfl
theorem fg1 (id : Nat) : Jq Tryz.prog 47 (.ptr id 0) 1 = some (.ptr id 1) := by kernel_rfl
theorem fg2 (id : Nat) : Jq Tryz.prog 47 (.ptr id 0) 2 = some (.ptr id 2) := by kernel_rfl
theorem fg3 (id : Nat) : Jq Tryz.prog 47 (.ptr id 0) 3 = some (.ptr id 3) := by kernel_rfl
theorem fg4 (id : Nat) : Jq Tryz.prog 47 (.ptr id 0) 4 = some (.ptr id 4) := by kernel_rfl
theorem fg5 (id : Nat) : Jq Tryz.prog 47 (.ptr id 0) 5 = some (.ptr id 5) := by kernel_rfl
theorem Jge (f : Fw) (r : List V) (st : St) : JB Tryz.prog st 47 (.cp (f.cells ++ r)) = some (.agg f.cells) := by
 simp only [JB, QS, a38, z38, sub]
 rfl
theorem JiV (s : S) (r : List V) (st : St) : JB Tryz.prog st 9 (.cp (sC s ++ r)) = some (.str s) := by
 simp only [JB, QS, a9, z9]
 rfl
theorem JmI (n : Int) (r : List V) (st : St) : JB Tryz.prog st 3 (.cp (iC n ++ r)) = some (.int .i64 n) := by
 simp only [JB, QS, a3, z3]
 rfl
theorem Jid {st : St} {id : Nat} {f : Fw} {e : TypeId} {fl : Bool} {fz : Option Nat} (hb : st.box.get id = some (.cells f.cells e fl fz)) : JB Tryz.prog st 47 (.ptr id 0) = some (.agg f.cells) := by
 simp only [JB, hb, QS, a38, z38]
 rfl
theorem Fw.ones {f : Fw} (h : f.ok) : f.cells.all JN = true := by
 simp only [Fw.cells, List.all_cons, h.names.one, h.kids.one]
 rfl
def Q9 (st : St) (f : Fw) : St := { ctr := st.ctr + 1, box := st.box.put st.ctr (.cells f.cells 47 true (some 0)) }
theorem JaF (st : St) (f : Fw) : Keep st (Q9 st f) := (Keep.refl st).new _
theorem Ja2 (st : St) (f : Fw) : (Q9 st f).box.get st.ctr = some (.cells f.cells 47 true (some 0)) := by unfold Q9; rw [Tr.get_put, if_pos rfl]
theorem Jdk (st : St) (f : Fw) : st.ctr < (Q9 st f).ctr := Nat.lt_succ_self _
def Jbn (f : Fw) : Bool := f.known && decide (f.kind = 2)
variable [Memo] [NY]
theorem JpO (gl : Gl) (st : St) (f : Fw) (hok : f.ok) :
  ∃ v st', W Tryz.prog (.call gl 54 [.agg f.cells]) st = .call (.val v st') ∧ v = .bool (Jbn f) ∧ Keep st st' := by
 refine Jat (NY.no _ rfl rfl rfl _ _) Tryz.func54 rfl (by kernel_rfl) ?_
 have ho := Fw.ones hok
 have hk1 := JaF st f
 have b1 := Ja2 st f
 have hs : ({ ctr := st.ctr + 1, box := st.box.put st.ctr (.cells f.cells 47 true (some 0)) } : St) = Q9 st f := rfl
 have l0 := Jb (P := Tryz.prog) (off := 0) a4 z4 b1 rfl
 have l1 := Jb (P := Tryz.prog) (off := 1) a5 z5 b1 rfl
 have e2 : ∀ kk, Jd Tryz.prog kk .eql 5 (.int .u8 (f.kind : Int)) (.int .u8 2) = some (.bool (decide (f.kind = 2))) := fun kk => JbE rfl
 have f0 := fg0 st.ctr
 have f1 := fg1 st.ctr
 unfold Jbn
 generalize Q9 st f = st1 at hk1 b1 hs l0 l1
 generalize f.cells = cs at ho hs
 generalize decide (f.kind = 2) = k2 at e2
 generalize f.known = kn at l0
 generalize (f.kind : Int) = ki at l1 e2
 repeat refine Does.seq ?_
 refine Does.region ?_
 simp [JK, V.cells, ho, Qb, hs]
 repeat refine Does.seq ?_
 refine Does.region ?_
 cases kn with
 | false =>
  simp [f0, l0]
  refine Does.ret ?_
  simp
  exact hk1
 | true =>
  simp [f0, l0, f1, l1, e2]
  refine Does.ret ?_
  simp
  exact hk1
theorem JpP (gl : Gl) (st : St) (f : Fw) (hok : f.ok) :
  ∃ v st', W Tryz.prog (.call gl 59 [.agg f.cells]) st = .call (.val v st') ∧ v = .bool (Jbn f) ∧ Keep st st' := by
 refine Jat (NY.no _ rfl rfl rfl _ _) Tryz.func59 rfl (by kernel_rfl) ?_
 have ho := Fw.ones hok
 have hk1 := JaF st f
 have b1 := Ja2 st f
 have hs : ({ ctr := st.ctr + 1, box := st.box.put st.ctr (.cells f.cells 47 true (some 0)) } : St) = Q9 st f := rfl
 have l0 := Jb (P := Tryz.prog) (off := 0) a4 z4 b1 rfl
 have l1 := Jb (P := Tryz.prog) (off := 1) a5 z5 b1 rfl
 have e2 : ∀ kk, Jd Tryz.prog kk .eql 5 (.int .u8 (f.kind : Int)) (.int .u8 2) = some (.bool (decide (f.kind = 2))) := fun kk => JbE rfl
 have f0 := fg0 st.ctr
 have f1 := fg1 st.ctr
 unfold Jbn
 generalize Q9 st f = st1 at hk1 b1 hs l0 l1
 generalize f.cells = cs at ho hs
 generalize decide (f.kind = 2) = k2 at e2
 generalize f.known = kn at l0
 generalize (f.kind : Int) = ki at l1 e2
 repeat refine Does.seq ?_
 refine Does.region ?_
 simp [JK, V.cells, ho, Qb, hs]
 repeat refine Does.seq ?_
 refine Does.region ?_
 cases kn with
 | false =>
  simp [f0, l0]
  refine Does.ret ?_
  simp
  exact hk1
 | true =>
  simp [f0, l0, f1, l1, e2]
  refine Does.ret ?_
  simp
  exact hk1
end Go.Vm
namespace Go.Vm
open Go Go.Proofs Go.Pa
attribute [local simp] Oks Qn Jh Jn vop Ju JG ev evs toV andThen inBlock Jm Fr.dsTo Fr.glTo Fr.toNone Jj Jk Jl Qj Jc JL Jv V.undef J5 QA QO
def leS (a b : S) : Bool := a.less b || a.same b
def Jdl (l : List S) (i : Nat) : Bool := !JbF (l.getD i ⟨0, 0⟩) || (decide (0 < i) && leS (l.getD i ⟨0, 0⟩) (l.getD (i - 1) ⟨0, 0⟩))
def JcZ (l : List S) (i : Nat) : Prop := ∀ j, j < i → Jdl l j = false
def Q1 (l : List S) : Bool := (List.range l.length).all fun i => !Jdl l i
theorem JdM {l : List S} {i : Nat} (h : JcZ l i) (hi : l.length ≤ i) : Q1 l = true := by
 unfold Q1
 rw [List.all_eq_true]
 intro j hj
 rw [h j (by have := List.mem_range.1 hj; omega)]; rfl
theorem Jdm {l : List S} {i : Nat} (hi : i < l.length) (h : Jdl l i = true) : Q1 l = false := by
 unfold Q1
 rw [Bool.eq_false_iff]
 intro hc
 rw [List.all_eq_true] at hc
 have := hc i (List.mem_range.2 hi)
 rw [h] at this; cases this
theorem Jb4 {l : List S} {i : Nat} (h : JcZ l i) (hb : Jdl l i = false) : JcZ l (i + 1) := fun j hj => by
 by_cases he : j = i
 ·subst he; exact hb
 ·exact h j (by omega)
def Jde (f : Fw) : Bool := decide (f.kind ≤ 3) && !(!f.known && !decide (f.kind = 0)) && decide (f.names.length = f.kids.length)
def JiW (f : Fw) : Bool := decide (f.names.length = 0) && decide (f.rest = 0) && decide (f.beside = 0)
def Jgf (f : Fw) : Bool := cond (decide (f.rest = 2)) (decide (0 ≤ f.beside) && decide (f.beside ≤ (f.names.length : Int))) ((decide (f.rest = 0) || decide (f.rest = 1)) && decide (f.beside = 0))
def Ja8 (f : Fw) : Bool := cond (Jde f) (cond (Jbn f) (Q1 f.names && Jgf f) (JiW f)) false
def FcF (gl : Gl) (id1 : Nat) (fr : Fr) : Prop := fr.ds = [] ∧ fr.gl = gl ∧ Fr.at fr 1 = .ptr id1 0
def FcQ (gl : Gl) (id1 k : Nat) (st : St) (b : Bool) (fr : Fr) (st' : St) : Prop := JbN st st' ∧ FcF gl id1 fr ∧ Fr.at fr k = .bool b
def HdQ (gl : Gl) (id1 : Nat) (st : St) (O H D : Bool) (e : AE) (fr : Fr) (st' : St) : Prop :=
 (e = AE.ret ∧ Keep st st' ∧ fr.ds = [] ∧ Fr.at fr 2 = .bool O) ∨ (e = AE.normal ∧ Keep st st' ∧ FcF gl id1 fr ∧ H = true ∧ D = true)
def JpQ (gl : Gl) (id1 : Nat) (st : St) (A : Bool) (e : AE) (fr : Fr) (st' : St) : Prop :=
 (e = AE.ret ∧ Keep st st' ∧ fr.ds = [] ∧ Fr.at fr 2 = .bool false ∧ A = false) ∨ (e = AE.normal ∧ Keep st st' ∧ FcF gl id1 fr ∧ A = true)
variable [Memo] [NY]
set_option maxHeartbeats 1000000 in
set_option maxRecDepth 100000 in
theorem Jn6 (gl : Gl) {aL : List V} (hh : Hits gl aL) (st : St) (f : Fw) (hok : f.ok) (hl60 : f.names.length < 1000000) :
  ∃ v st', W Tryz.prog (.call gl 55 [.agg f.cells]) st = .call (.val v st') ∧ v = .bool (Ja8 f) ∧ Keep st st' := by
 have hk28 : JR Tryz.prog 54 = true := by kernel_rfl
 have hk50 : JR Tryz.prog 74 = true := by kernel_rfl
 have lx := hok.names.len Tryz.underlying23
 have lk := hok.kids.len Tryz.underlying45
 refine Jat (NY.no _ rfl rfl rfl _ _) Tryz.func55 rfl (by kernel_rfl) ?_
 have ho := Fw.ones hok
 have hk1 := JaF st f
 have b1 := Ja2 st f
 have hct := Jdk st f
 have hs : ({ ctr := st.ctr + 1, box := st.box.put st.ctr (.cells f.cells 47 true (some 0)) } : St) = Q9 st f := rfl
 generalize Q9 st f = st1 at hk1 b1 hct hs
 generalize hid1 : st.ctr = id1 at b1 hct hs
 have l0 := Jb (P := Tryz.prog) (off := 0) a4 z4 b1 rfl
 have l1 := Jb (P := Tryz.prog) (off := 1) a5 z5 b1 rfl
 have l2 := Jb (P := Tryz.prog) (off := 2) a23 z23 b1 rfl
 have l3 := Jb (P := Tryz.prog) (off := 3) a36 z36 b1 rfl
 have l38 := Jid b1
 have f0 := fg0 id1
 have f1 := fg1 id1
 have f2 := fg2 id1
 have f3 := fg3 id1
 have f4 := fg4 id1
 have f5 := fg5 id1
 repeat refine Does.seq ?_
 refine Does.region ?_
 refine Oks.cont (Q := fun fr st' => JbN st1 st' ∧ FcF gl id1 fr) ?r0 ?t0
 case r0 => as_aux_lemma =>
  generalize f.cells = cs at ho hs
  simp [JK, V.cells, ho, Qb, hid1, hs]
  exact ⟨rfl, by simp, by simp, by simp⟩
 case t0 => as_aux_lemma =>
 rintro fr st' ⟨hst', hds, hg, h1⟩
 rw [show st' = st1 from hst']
 clear hst'
 simp only [andThen]
 repeat refine Does.seq ?_
 refine Does.mono (Q := HdQ gl id1 st1 (Ja8 f) (Jde f) (Jbn f)) ?head ?body
 case head => as_aux_lemma =>
  unfold Ja8
  have e3 : ∀ kk, Jd Tryz.prog kk .gtr 5 (.int .u8 (f.kind : Int)) (.int .u8 3) = some (.bool (!decide (f.kind ≤ 3))) := fun kk => by
   have := Jdi (P := Tryz.prog) (kk := kk) (T := 5) (q := .u8) (c := f.kind) (m := 3) (k := 3) rfl
   rw [this]
   congr 2
   by_cases h : f.kind ≤ 3
   ·rw [decide_eq_true h, decide_eq_false (by omega)]; rfl
   ·rw [decide_eq_false h, decide_eq_true (by omega)]; rfl
  have e0 : ∀ kk, Jd Tryz.prog kk .neq 5 (.int .u8 (f.kind : Int)) (.int .u8 0) = some (.bool (!decide (f.kind = 0))) := fun kk => Jdh rfl
  have el : ∀ kk, Jd Tryz.prog kk .neq 3 (.int .i64 (f.names.length : Int)) (.int .i64 (f.kids.length : Int)) = some (.bool (!decide (f.names.length = f.kids.length))) := fun kk => Jdh rfl
  have en : ∀ kk, Jd Tryz.prog kk .eql 3 (.int .i64 (f.names.length : Int)) (.int .i64 0) = some (.bool (decide (f.names.length = 0))) := fun kk => JbE rfl
  have er : ∀ kk, Jd Tryz.prog kk .eql 3 (.int .i64 f.rest) (.int .i64 0) = some (.bool (decide (f.rest = 0))) := fun kk => Qc
  have eb : ∀ kk, Jd Tryz.prog kk .eql 3 (.int .i64 f.beside) (.int .i64 0) = some (.bool (decide (f.beside = 0))) := fun kk => Qc
  obtain ⟨v, st2, hc, rfl, hk2⟩ := JpO gl st1 f hok
  have hc := JZ hc
  have b2 : st2.box.get id1 = some (.cells f.cells 47 true (some 0)) := by rw [hk2.box _ hct]; exact b1
  have m2 := Jb (P := Tryz.prog) (off := 2) a23 z23 b2 rfl
  have m4 := Jb (P := Tryz.prog) (off := 4) a3 z3 b2 rfl
  have m5 := Jb (P := Tryz.prog) (off := 5) a3 z3 b2 rfl
  generalize hH : Jde f = H
  unfold Jde at hH
  unfold JiW
  generalize hR : (Q1 f.names && Jgf f) = R
  generalize Jbn f = D at hc
  generalize decide (f.kind ≤ 3) = k3 at e3 hH
  generalize decide (f.kind = 0) = k0 at e0 hH
  generalize decide (f.names.length = f.kids.length) = ll at el hH
  generalize decide (f.names.length = 0) = nz at en
  generalize decide (f.rest = 0) = rz at er
  generalize decide (f.beside = 0) = bz at eb
  generalize f.known = kn at l0 hH
  generalize (f.kind : Int) = ki at l1 e3 e0
  generalize (f.names.length : Int) = nl at lx el en
  generalize (f.kids.length : Int) = kl at lk el
  generalize f.cells = cs at hc l38
  generalize f.nv = nv at l2 m2 lx
  generalize f.kv = kv at l3 lk
  clear hR hok
  refine Does.block ?_
  repeat refine Does.seq ?_
  refine Does.region ?_
  refine Oks.cut 13 (FcQ gl id1 18 st1 (!k3 || (!kn && !k0))) ?c1 ?c2
  case c1 => as_aux_lemma =>
   simp only [List.take]
   cases k3 with
   | false =>
    simp [h1, f1, l1, e3]
    exact ⟨rfl, ⟨by simp [hds], by simp [hg], by simp [h1]⟩, by simp⟩
   | true =>
    cases kn with
    | true =>
     simp [h1, f1, l1, e3, f0, l0]
     exact ⟨rfl, ⟨by simp [hds], by simp [hg], by simp [h1]⟩, by simp⟩
    | false =>
     simp [h1, f1, l1, e3, f0, l0, e0]
     exact ⟨rfl, ⟨by simp [hds], by simp [hg], by simp [h1]⟩, by simp⟩
  case c2 => as_aux_lemma =>
  clear hds hg h1
  rintro fr st' ⟨hst', ⟨hds, hg, h1⟩, h18⟩
  rw [show st' = st1 from hst']
  clear hst'
  simp only [List.drop]
  have hH2 : H = (!(!k3 || (!kn && !k0)) && ll) := by rw [← hH]; cases k3 <;> cases kn <;> cases k0 <;> rfl
  clear hH
  generalize (!k3 || (!kn && !k0)) = bad at h18 hH2
  refine Oks.cont (Q := FcQ gl id1 5 st1 (!H)) ?c3 ?c4
  case c3 => as_aux_lemma =>
   subst hH2
   cases bad with
   | true =>
    simp [h18]
    exact ⟨rfl, ⟨by simp [hds], by simp [hg], by simp [h1]⟩, by simp⟩
   | false =>
    simp [h18, h1, f2, l2, f3, l3, lx, lk, el]
    exact ⟨rfl, ⟨by simp [hds], by simp [hg], by simp [h1]⟩, by simp⟩
  case c4 => as_aux_lemma =>
  clear hds hg h1 h18 hH2
  rintro fr st' ⟨hst', ⟨hds, hg, h1⟩, h5⟩
  rw [show st' = st1 from hst']
  clear hst'
  simp only [andThen]
  repeat refine Does.seq ?_
  cases H with
  | false =>
   refine Does.condT (by simp [h5]) ?_
   repeat refine Does.seq ?_
   refine Does.region ?_
   simp
   refine Does.ret ?_
   simp only [inBlock]
   exact .inl ⟨rfl, .refl _, by simp [hds], by simp⟩
  | true =>
  refine Does.condF (by simp [h5]) ?_
  repeat refine Does.seq ?_
  refine Does.region ?_
  cases D with
  | true =>
   simp [h1, l38, hg, Jg hk28, hc]
   repeat refine Does.seq ?_
   refine Does.condF (by simp) ?_
   refine Does.skip ?_
   simp only [inBlock]
   exact .inr ⟨rfl, hk2, ⟨by simp [hds], by simp [hg], by simp [h1]⟩, rfl, rfl⟩
  | false =>
   simp [h1, l38, hg, Jg hk28, hc]
   repeat refine Does.seq ?_
   refine Does.condT (by simp) ?_
   repeat refine Does.seq ?_
   refine Does.region ?_
   cases nz with
   | false =>
    simp [h1, f2, m2, lx, en]
    refine Does.ret ?_
    simp only [inBlock]
    exact .inl ⟨rfl, hk2, by simp [hds], by simp⟩
   | true =>
    cases rz with
    | false =>
     simp [h1, f2, m2, lx, en, f4, m4, er]
     refine Does.ret ?_
     simp only [inBlock]
     exact .inl ⟨rfl, hk2, by simp [hds], by simp⟩
    | true =>
     simp [h1, f2, m2, lx, en, f4, m4, er, f5, m5, eb]
     refine Does.ret ?_
     simp only [inBlock]
     exact .inl ⟨rfl, hk2, by simp [hds], by simp⟩
 case body => as_aux_lemma =>
  clear hds hg h1 l0 l1 l2 l3 l38
  rintro e fr st2 (⟨rfl, hk, hds, h2⟩ | ⟨rfl, hk, ⟨hds, hg, h1⟩, hH, hD⟩)
  ·simp only [andThen]
   simp [hds, h2]
   exact hk1.trans hk
  simp only [andThen]
  have b2 : st2.box.get id1 = some (.cells f.cells 47 true (some 0)) := by rw [hk.box _ hct]; exact b1
  have hct2 : id1 < st2.ctr := Nat.lt_of_lt_of_le hct hk.ctr
  have hk12 := hk1.trans hk
  have l2 := Jb (P := Tryz.prog) (off := 2) a23 z23 b2 rfl
  rw [show Ja8 f = (Q1 f.names && Jgf f) from by unfold Ja8; rw [hH, hD]; rfl]
  generalize hA : Q1 f.names = A
  repeat refine Does.seq ?_
  refine Does.region ?_
  simp [h1, f2, l2, lx]
  repeat refine Does.seq ?_
  refine Does.mono (Q := JpQ gl id1 st2 A) ?loop ?tail
  case loop => as_aux_lemma =>
   refine Does.block (Does.up f.names.length (fun i fr st' => Keep st2 st' ∧ FcF gl id1 fr ∧ Fr.at fr 47 = f.nv ∧ Fr.at fr 48 = .int .i64 (f.names.length : Int) ∧ Fr.at fr 49 = .int .i64 (i : Int) ∧ i ≤ f.names.length ∧ JcZ f.names i) 0 ?init ?J4 ?step)
   case init => exact ⟨.refl st2, ⟨by simp [hds], by simp [hg], by simp [h1]⟩, by simp, by simp, by simp, Nat.zero_le _, fun j hj => absurd hj (Nat.not_lt_zero j)⟩
   case J4 => exact fun i fr st' h => h.2.2.2.2.2.1
   case step =>
    clear hds hg h1
    rintro i fr st' ⟨hk', ⟨hds, hg, h1⟩, h47, h48, h49, hi, hall⟩
    have elen : ∀ kk, Jd Tryz.prog kk .lss 3 (.int .i64 (i : Int)) (.int .i64 (f.names.length : Int)) = some (.bool (decide (i < f.names.length))) := fun kk => JaZ rfl
    repeat refine Does.seq ?_
    refine Does.region ?_
    by_cases hlt : i < f.names.length
    rotate_left
    ·rw [decide_eq_false hlt] at elen
     simp [h48, h49, elen]
     repeat refine Does.seq ?_
     refine Does.condF (by simp) ?_
     refine Does.exit ?_
     simp only [inBlock, if_true, andThen]
     exact .inr ⟨rfl, hk', ⟨by simp [hds], by simp [hg], by simp [h1]⟩, by rw [← hA]; exact JdM hall (by omega)⟩
    rw [decide_eq_true hlt] at elen
    obtain ⟨r, g1⟩ := hok.names.get (z := 1) (fun _ _ => rfl) Tryz.underlying23 z9 hlt
    have i1 := g1 .i64
    have hld := JiV f.names[i] r st'
    have hgd : f.names.getD i ⟨0, 0⟩ = f.names[i] := by rw [List.getD_eq_getElem?_getD, List.getElem?_eq_getElem hlt]; rfl
    have hstep := Jb4 hall
    have hnot := Jdm hlt
    have b3 : st'.box.get id1 = some (.cells f.cells 47 true (some 0)) := by rw [hk'.box _ hct2]; exact b2
    obtain ⟨v, st3, hc, rfl, hk3⟩ := JmG gl hh st' f.names[i]
    have hc := JZ hc
    have b4 : st3.box.get id1 = some (.cells f.cells 47 true (some 0)) := by rw [hk3.box _ (Nat.lt_of_lt_of_le hct2 hk'.ctr)]; exact b3
    have m2 := Jb (P := Tryz.prog) (off := 2) a23 z23 b4 rfl
    have e0 : ∀ kk, Jd Tryz.prog kk .gtr 3 (.int .i64 (i : Int)) (.int .i64 0) = some (.bool (decide (0 < i))) := fun kk => Jdi rfl
    have hprev : decide (0 < i) = true → ∃ pa, Je Tryz.prog 23 f.nv (.int .i64 ((i : Int) - 1)) = some pa ∧ JB Tryz.prog st3 9 pa = some (.str (f.names.getD (i - 1) ⟨0, 0⟩)) := fun h => by
     have h0 : 0 < i := of_decide_eq_true h
     have hlt1 : i - 1 < f.names.length := by omega
     obtain ⟨r', g1'⟩ := hok.names.get (z := 1) (fun _ _ => rfl) Tryz.underlying23 z9 hlt1
     have i2 := g1' .i64
     have hcast : (((i - 1 : Nat)) : Int) = (i : Int) - 1 := by omega
     rw [hcast] at i2
     have hgd1 : f.names.getD (i - 1) ⟨0, 0⟩ = f.names[i - 1] := by rw [List.getD_eq_getElem?_getD, List.getElem?_eq_getElem hlt1]; rfl
     rw [hgd1]
     exact ⟨_, i2, JiV f.names[i - 1] r' st3⟩
    have w0 : IntKind.i64.wrap ((i : Int) - 1) = (i : Int) - 1 := Jo (by omega) (by omega)
    have w1 : IntKind.i64.wrap ((i : Int) + 1) = (i : Int) + 1 := Jo (by omega) (by omega)
    have hbad : Jdl f.names i = (!JbF f.names[i] || (decide (0 < i) && leS f.names[i] (f.names.getD (i - 1) ⟨0, 0⟩))) := by unfold Jdl; rw [hgd]
    rw [hbad] at hstep hnot
    clear hbad hgd
    have ele : ∀ kk, Jd Tryz.prog kk .leq 9 (.str f.names[i]) (.str (f.names.getD (i - 1) ⟨0, 0⟩)) = some (.bool (leS f.names[i] (f.names.getD (i - 1) ⟨0, 0⟩))) := fun kk => rfl
    generalize leS f.names[i] (f.names.getD (i - 1) ⟨0, 0⟩) = le at ele hstep hnot
    generalize f.names.getD (i - 1) ⟨0, 0⟩ = pv at ele hprev
    generalize JbF f.names[i] = pn at hc hstep hnot
    generalize sC f.names[i] ++ r = sr at hld i1
    generalize f.names[i] = s at hld hc ele
    generalize decide (0 < i) = d0 at e0 hprev hstep hnot
    simp [h48, h49, elen]
    repeat refine Does.seq ?_
    refine Does.condT (by simp) ?_
    refine Does.skip ?_
    simp
    repeat refine Does.seq ?_
    refine Does.block ?_
    repeat refine Does.seq ?_
    refine Does.region ?_
    simp [h47, h49, i1, hld]
    repeat refine Does.seq ?_
    refine Does.region ?_
    refine Oks.cont (Q := fun fr st'' => JbN st3 st'' ∧ FcF gl id1 fr ∧ Fr.at fr 47 = f.nv ∧ Fr.at fr 48 = .int .i64 (f.names.length : Int) ∧ Fr.at fr 49 = .int .i64 (i : Int) ∧ Fr.at fr 70 = .bool (!pn || (d0 && le))) ?r8 ?t8
    case r8 => as_aux_lemma =>
     cases pn with
     | false =>
      simp [hg, Jg hk50, hc]
      exact ⟨rfl, ⟨by simp [hds], by simp [hg], by simp [h1]⟩, by simp [h47], by simp [h48], by simp [h49]⟩
     | true =>
      cases d0 with
      | false =>
       simp [hg, Jg hk50, hc, e0]
       exact ⟨rfl, ⟨by simp [hds], by simp [hg], by simp [h1]⟩, by simp [h47], by simp [h48], by simp [h49]⟩
      | true =>
       obtain ⟨pa, i2, hl2⟩ := hprev rfl
       simp [h1, f2, hg, Jg hk50, hc, e0, m2, JM, w0, i2, hl2, ele]
       exact ⟨rfl, ⟨by simp [hds], by simp [hg], by simp [h1]⟩, by simp [h47], by simp [h48], by simp [h49]⟩
    case t8 => as_aux_lemma =>
    clear hds hg h1 h47 h48 h49
    rintro fr st'' ⟨hst', ⟨hds, hg, h1⟩, h47, h48, h49, h70⟩
    rw [show st'' = st3 from hst']
    clear hst'
    simp only [andThen]
    repeat refine Does.seq ?_
    generalize (!pn || (d0 && le)) = bad at h70 hstep hnot
    cases bad with
    | true =>
     refine Does.condT (by simp [h70]) ?_
     repeat refine Does.seq ?_
     refine Does.region ?_
     simp
     refine Does.ret ?_
     simp only [andThen, inBlock]
     exact .inl ⟨rfl, hk'.trans hk3, by simp [hds], by simp, by rw [← hA]; exact hnot rfl⟩
    | false =>
     refine Does.condF (by simp [h70]) ?_
     refine Does.skip ?_
     simp only [andThen, inBlock]
     refine Does.region ?_
     simp [h49, Jz, w1]
     exact ⟨i + 1, by omega, hk'.trans hk3, ⟨by simp [hds], by simp [hg], by simp [h1]⟩, by simp [h47], by simp [h48], by simp, by omega, hstep rfl⟩
  case tail => as_aux_lemma =>
   clear hds hg h1
   rintro e fr st3 (⟨rfl, hk', hds, h2, rfl⟩ | ⟨rfl, hk', ⟨hds, hg, h1⟩, rfl⟩)
   ·simp only [andThen]
    simp [hds, h2]
    exact hk12.trans hk'
   simp only [andThen, Bool.true_and]
   have b3 : st3.box.get id1 = some (.cells f.cells 47 true (some 0)) := by rw [hk'.box _ hct2]; exact b2
   have m2 := Jb (P := Tryz.prog) (off := 2) a23 z23 b3 rfl
   have m4 := Jb (P := Tryz.prog) (off := 4) a3 z3 b3 rfl
   have m5 := Jb (P := Tryz.prog) (off := 5) a3 z3 b3 rfl
   have hkk := hk12.trans hk'
   unfold Jgf
   have r2 : ∀ kk, Jd Tryz.prog kk .eql 3 (.int .i64 f.rest) (.int .i64 2) = some (.bool (decide (f.rest = 2))) := fun kk => Qc
   have r0 : ∀ kk, Jd Tryz.prog kk .eql 3 (.int .i64 f.rest) (.int .i64 0) = some (.bool (decide (f.rest = 0))) := fun kk => Qc
   have r1 : ∀ kk, Jd Tryz.prog kk .eql 3 (.int .i64 f.rest) (.int .i64 1) = some (.bool (decide (f.rest = 1))) := fun kk => Qc
   have q0 : ∀ kk, Jd Tryz.prog kk .eql 3 (.int .i64 f.beside) (.int .i64 0) = some (.bool (decide (f.beside = 0))) := fun kk => Qc
   have qg : ∀ kk, Jd Tryz.prog kk .geq 3 (.int .i64 f.beside) (.int .i64 0) = some (.bool (decide (0 ≤ f.beside))) := fun kk => JP
   have ql : ∀ kk, Jd Tryz.prog kk .leq 3 (.int .i64 f.beside) (.int .i64 (f.names.length : Int)) = some (.bool (decide (f.beside ≤ (f.names.length : Int)))) := fun kk => JaD
   generalize decide (f.rest = 2) = d2 at r2
   generalize decide (f.rest = 0) = d0 at r0
   generalize decide (f.rest = 1) = d1 at r1
   generalize decide (f.beside = 0) = e0 at q0
   generalize decide (0 ≤ f.beside) = eg at qg
   generalize decide (f.beside ≤ (f.names.length : Int)) = el at ql
   generalize (f.names.length : Int) = nl at lx ql
   generalize f.nv = nv at m2 lx
   repeat refine Does.seq ?_
   refine Does.region ?_
   cases d2 with
   | true =>
    simp [h1, f4, m4, r2]
    repeat refine Does.seq ?_
    refine Does.condT (by simp) ?_
    repeat refine Does.seq ?_
    refine Does.region ?_
    cases eg with
    | false =>
     simp [h1, f5, m5, qg]
     refine Does.ret ?_
     simp [hds]
     exact hkk
    | true =>
     simp [h1, f5, m5, qg, f2, m2, lx, ql]
     refine Does.ret ?_
     simp [hds]
     exact hkk
   | false =>
    simp [h1, f4, m4, r2]
    repeat refine Does.seq ?_
    refine Does.condF (by simp) ?_
    refine Does.skip ?_
    simp
    repeat refine Does.seq ?_
    refine Does.region ?_
    cases d0 with
    | true =>
     simp [h1, f4, m4, r0, f5, m5, q0]
     refine Does.ret ?_
     simp [hds]
     exact hkk
    | false =>
     cases d1 with
     | false =>
      simp [h1, f4, m4, r0, r1]
      refine Does.ret ?_
      simp [hds]
      exact hkk
     | true =>
      simp [h1, f4, m4, r0, r1, f5, m5, q0]
      refine Does.ret ?_
      simp [hds]
      exact hkk
end Go.Vm
namespace Go.Vm
open Go Go.Proofs Go.Pa
attribute [local simp] Oks Qn Jh Jn vop Ju JG ev evs toV andThen inBlock Jm Fr.dsTo Fr.glTo Fr.toNone Jj Jk Jl Qj Jc JL Jv V.undef J5 QA QO
variable [Memo] [NY]
set_option maxHeartbeats 1000000 in
set_option maxRecDepth 100000 in
theorem Jn7 (gl : Gl) (st : St) (f : Fw) (hok : f.ok) (hl60 : f.names.length < 1000000) (hvz : vsz f.nv < 1000000000) :
  ∃ v st', W Tryz.prog (.call gl 60 [.agg f.cells]) st = .call (.val v st') ∧ v = .bool (Ja8 f) ∧ Keep st st' := by
 have hk28 : JR Tryz.prog 59 = true := by kernel_rfl
 have hk50 : JR Tryz.prog 63 = true := by kernel_rfl
 have lx := hok.names.len Tryz.underlying23
 have lk := hok.kids.len Tryz.underlying45
 refine Jat (NY.no _ rfl rfl rfl _ _) Tryz.func60 rfl (by kernel_rfl) ?_
 have ho := Fw.ones hok
 have hk1 := JaF st f
 have b1 := Ja2 st f
 have hct := Jdk st f
 have hs : ({ ctr := st.ctr + 1, box := st.box.put st.ctr (.cells f.cells 47 true (some 0)) } : St) = Q9 st f := rfl
 generalize Q9 st f = st1 at hk1 b1 hct hs
 generalize hid1 : st.ctr = id1 at b1 hct hs
 have l0 := Jb (P := Tryz.prog) (off := 0) a4 z4 b1 rfl
 have l1 := Jb (P := Tryz.prog) (off := 1) a5 z5 b1 rfl
 have l2 := Jb (P := Tryz.prog) (off := 2) a23 z23 b1 rfl
 have l3 := Jb (P := Tryz.prog) (off := 3) a36 z36 b1 rfl
 have l38 := Jid b1
 have f0 := fg0 id1
 have f1 := fg1 id1
 have f2 := fg2 id1
 have f3 := fg3 id1
 have f4 := fg4 id1
 have f5 := fg5 id1
 repeat refine Does.seq ?_
 refine Does.region ?_
 refine Oks.cont (Q := fun fr st' => JbN st1 st' ∧ FcF gl id1 fr) ?r0 ?t0
 case r0 => as_aux_lemma =>
  generalize f.cells = cs at ho hs
  simp [JK, V.cells, ho, Qb, hid1, hs]
  exact ⟨rfl, by simp, by simp, by simp⟩
 case t0 => as_aux_lemma =>
 rintro fr st' ⟨hst', hds, hg, h1⟩
 rw [show st' = st1 from hst']
 clear hst'
 simp only [andThen]
 repeat refine Does.seq ?_
 refine Does.region ?_
 refine Oks.cont (Q := FcQ gl id1 25 st1 (!Jde f)) ?r1 ?t1
 case r1 => as_aux_lemma =>
  have e3 : ∀ kk, Jd Tryz.prog kk .gtr 5 (.int .u8 (f.kind : Int)) (.int .u8 3) = some (.bool (!decide (f.kind ≤ 3))) := fun kk => by
   have := Jdi (P := Tryz.prog) (kk := kk) (T := 5) (q := .u8) (c := f.kind) (m := 3) (k := 3) rfl
   rw [this]
   congr 2
   by_cases h : f.kind ≤ 3
   ·rw [decide_eq_true h, decide_eq_false (by omega)]; rfl
   ·rw [decide_eq_false h, decide_eq_true (by omega)]; rfl
  have e0 : ∀ kk, Jd Tryz.prog kk .neq 5 (.int .u8 (f.kind : Int)) (.int .u8 0) = some (.bool (!decide (f.kind = 0))) := fun kk => Jdh rfl
  have el : ∀ kk, Jd Tryz.prog kk .neq 3 (.int .i64 (f.names.length : Int)) (.int .i64 (f.kids.length : Int)) = some (.bool (!decide (f.names.length = f.kids.length))) := fun kk => Jdh rfl
  generalize hH : Jde f = H
  unfold Jde at hH
  generalize decide (f.kind ≤ 3) = k3 at e3 hH
  generalize decide (f.kind = 0) = k0 at e0 hH
  generalize decide (f.names.length = f.kids.length) = ll at el hH
  generalize f.known = kn at l0 hH
  generalize (f.kind : Int) = ki at l1 e3 e0
  generalize (f.names.length : Int) = nl at lx el
  generalize (f.kids.length : Int) = kl at lk el
  generalize f.nv = nv at l2 lx
  generalize f.kv = kv at l3 lk
  clear hok
  refine Oks.cut 13 (FcQ gl id1 16 st1 (!k3 || (!kn && !k0))) ?c1 ?c2
  case c1 => as_aux_lemma =>
   simp only [List.take]
   cases k3 with
   | false =>
    simp [h1, f1, l1, e3]
    exact ⟨rfl, ⟨by simp [hds], by simp [hg], by simp [h1]⟩, by simp⟩
   | true =>
    cases kn with
    | true =>
     simp [h1, f1, l1, e3, f0, l0]
     exact ⟨rfl, ⟨by simp [hds], by simp [hg], by simp [h1]⟩, by simp⟩
    | false =>
     simp [h1, f1, l1, e3, f0, l0, e0]
     exact ⟨rfl, ⟨by simp [hds], by simp [hg], by simp [h1]⟩, by simp⟩
  case c2 => as_aux_lemma =>
  clear hds hg h1
  rintro fr st' ⟨hst', ⟨hds, hg, h1⟩, h16⟩
  rw [show st' = st1 from hst']
  clear hst'
  simp only [List.drop]
  have hH2 : H = (!(!k3 || (!kn && !k0)) && ll) := by rw [← hH]; cases k3 <;> cases kn <;> cases k0 <;> rfl
  clear hH
  generalize (!k3 || (!kn && !k0)) = bad at h16 hH2
  subst hH2
  cases bad with
  | true =>
   simp [h16]
   exact ⟨rfl, ⟨by simp [hds], by simp [hg], by simp [h1]⟩, by simp⟩
  | false =>
   simp [h16, h1, f2, l2, f3, l3, lx, lk, el]
   exact ⟨rfl, ⟨by simp [hds], by simp [hg], by simp [h1]⟩, by simp⟩
 case t1 => as_aux_lemma =>
 clear hds hg h1
 rintro fr st' ⟨hst', ⟨hds, hg, h1⟩, h25⟩
 rw [show st' = st1 from hst']
 clear hst'
 simp only [andThen]
 repeat refine Does.seq ?_
 cases hH : Jde f with
 | false =>
  rw [hH] at h25
  refine Does.condT (by simp [h25]) ?_
  repeat refine Does.seq ?_
  refine Does.region ?_
  simp
  refine Does.ret ?_
  have : Ja8 f = false := by unfold Ja8; rw [hH]; rfl
  simp [hds, this]
  exact hk1
 | true =>
 rw [hH] at h25
 refine Does.condF (by simp [h25]) ?_
 refine Does.skip ?_
 simp only [andThen]
 obtain ⟨v, st2, hc, rfl, hk⟩ := JpP gl st1 f hok
 have hc := JZ hc
 repeat refine Does.seq ?_
 refine Does.region ?_
 refine Oks.cont (Q := FcQ gl id1 28 st2 (!Jbn f)) ?r3 ?t3
 case r3 => as_aux_lemma =>
  generalize f.cells = cs at hc l38
  generalize Jbn f = D at hc
  simp [h1, l38, hg, Jg hk28, hc]
  exact ⟨rfl, ⟨by simp [hds], by simp [hg], by simp [h1]⟩, by simp⟩
 case t3 => as_aux_lemma =>
 clear hds hg h1 h25 hc
 rintro fr st' ⟨hst', ⟨hds, hg, h1⟩, h28⟩
 rw [show st' = st2 from hst']
 clear hst'
 simp only [andThen]
 repeat refine Does.seq ?_
 cases hD : Jbn f with
 | false =>
  rw [hD] at h28
  refine Does.condT (by simp [h28]) ?_
  repeat refine Does.seq ?_
  refine Does.region ?_
  have hone : Ja8 f = JiW f := by unfold Ja8; rw [hH, hD]; rfl
  rw [hone]
  unfold JiW
  have b2 : st2.box.get id1 = some (.cells f.cells 47 true (some 0)) := by rw [hk.box _ hct]; exact b1
  have m2 := Jb (P := Tryz.prog) (off := 2) a23 z23 b2 rfl
  have m4 := Jb (P := Tryz.prog) (off := 4) a3 z3 b2 rfl
  have m5 := Jb (P := Tryz.prog) (off := 5) a3 z3 b2 rfl
  have en : ∀ kk, Jd Tryz.prog kk .eql 3 (.int .i64 (f.names.length : Int)) (.int .i64 0) = some (.bool (decide (f.names.length = 0))) := fun kk => JbE rfl
  have er : ∀ kk, Jd Tryz.prog kk .eql 3 (.int .i64 f.rest) (.int .i64 0) = some (.bool (decide (f.rest = 0))) := fun kk => Qc
  have eb : ∀ kk, Jd Tryz.prog kk .eql 3 (.int .i64 f.beside) (.int .i64 0) = some (.bool (decide (f.beside = 0))) := fun kk => Qc
  generalize decide (f.names.length = 0) = nz at en
  generalize decide (f.rest = 0) = rz at er
  generalize decide (f.beside = 0) = bz at eb
  generalize (f.names.length : Int) = nl at lx en
  generalize f.nv = nv at m2 lx
  cases nz with
  | false =>
   simp [h1, f2, m2, lx, en]
   refine Does.ret ?_
   simp [hds]
   exact hk1.trans hk
  | true =>
   cases rz with
   | false =>
    simp [h1, f2, m2, lx, en, f4, m4, er]
    refine Does.ret ?_
    simp [hds]
    exact hk1.trans hk
   | true =>
    simp [h1, f2, m2, lx, en, f4, m4, er, f5, m5, eb]
    refine Does.ret ?_
    simp [hds]
    exact hk1.trans hk
 | true =>
 rw [hD] at h28
 refine Does.condF (by simp [h28]) ?_
 refine Does.skip ?_
 simp only [andThen]
 have b2 : st2.box.get id1 = some (.cells f.cells 47 true (some 0)) := by rw [hk.box _ hct]; exact b1
 have hct2 : id1 < st2.ctr := Nat.lt_of_lt_of_le hct hk.ctr
 have hk12 := hk1.trans hk
 have l2 := Jb (P := Tryz.prog) (off := 2) a23 z23 b2 rfl
 rw [show Ja8 f = (Q1 f.names && Jgf f) from by unfold Ja8; rw [hH, hD]; rfl]
 generalize hA : Q1 f.names = A
 repeat refine Does.seq ?_
 refine Does.region ?_
 simp
 repeat refine Does.seq ?_
 refine Does.mono (Q := JpQ gl id1 st2 A) ?loop ?tail
 case loop => as_aux_lemma =>
  refine Does.block (Does.up f.names.length (fun i fr st' => Keep st2 st' ∧ FcF gl id1 fr ∧ Fr.at fr 3 = .int .i64 (i : Int) ∧ i ≤ f.names.length ∧ JcZ f.names i) 0 ?init ?J4 ?step)
  case init => exact ⟨.refl st2, ⟨by simp [hds], by simp [hg], by simp [h1]⟩, by simp, Nat.zero_le _, fun j hj => absurd hj (Nat.not_lt_zero j)⟩
  case J4 => exact fun i fr st' h => h.2.2.2.1
  case step =>
   clear hds hg h1
   rintro i fr st' ⟨hk', ⟨hds, hg, h1⟩, h3, hi, hall⟩
   have elen : ∀ kk, Jd Tryz.prog kk .lss 3 (.int .i64 (i : Int)) (.int .i64 (f.names.length : Int)) = some (.bool (decide (i < f.names.length))) := fun kk => JaZ rfl
   have bn : st'.box.get id1 = some (.cells f.cells 47 true (some 0)) := by rw [hk'.box _ hct2]; exact b2
   have n2 := Jb (P := Tryz.prog) (off := 2) a23 z23 bn rfl
   repeat refine Does.seq ?_
   refine Does.region ?_
   by_cases hlt : i < f.names.length
   rotate_left
   ·rw [decide_eq_false hlt] at elen
    simp [h1, h3, f2, n2, lx, elen]
    repeat refine Does.seq ?_
    refine Does.condF (by simp) ?_
    refine Does.exit ?_
    simp only [inBlock, if_true, andThen]
    exact .inr ⟨rfl, hk', ⟨by simp [hds], by simp [hg], by simp [h1]⟩, by rw [← hA]; exact JdM hall (by omega)⟩
   rw [decide_eq_true hlt] at elen
   obtain ⟨r, g1⟩ := hok.names.get (z := 1) (fun _ _ => rfl) Tryz.underlying23 z9 hlt
   have i1 := g1 .i64
   have hgd : f.names.getD i ⟨0, 0⟩ = f.names[i] := by rw [List.getD_eq_getElem?_getD, List.getElem?_eq_getElem hlt]; rfl
   have hstep := Jb4 hall
   have hnot := Jdm hlt
   have hkt : Keep st2 { ctr := st'.ctr + 25, box := st'.box } := hk'.tick 25
   have b3 : ({ ctr := st'.ctr + 25, box := st'.box } : St).box.get id1 = some (.cells f.cells 47 true (some 0)) := by rw [hkt.box _ hct2]; exact b2
   have t2 := Jb (P := Tryz.prog) (st := { ctr := st'.ctr + 25, box := st'.box }) (off := 2) a23 z23 b3 rfl
   have hld := JiV f.names[i] r { ctr := st'.ctr + 25, box := st'.box }
   obtain ⟨v, st3, hc, rfl, hk3⟩ := JmH gl { ctr := st'.ctr + 25, box := st'.box } f.names[i]
   have hc := JZ hc
   have b4 : st3.box.get id1 = some (.cells f.cells 47 true (some 0)) := by rw [hk3.box _ (Nat.lt_of_lt_of_le hct2 hkt.ctr)]; exact b3
   have m2 := Jb (P := Tryz.prog) (off := 2) a23 z23 b4 rfl
   have hld3 := JiV f.names[i] r st3
   have e0 : ∀ kk, Jd Tryz.prog kk .gtr 3 (.int .i64 (i : Int)) (.int .i64 0) = some (.bool (decide (0 < i))) := fun kk => Jdi rfl
   have hprev : decide (0 < i) = true → ∃ pa, Je Tryz.prog 23 f.nv (.int .i64 ((i : Int) - 1)) = some pa ∧ ∀ s, JB Tryz.prog s 9 pa = some (.str (f.names.getD (i - 1) ⟨0, 0⟩)) := fun h => by
    have h0 : 0 < i := of_decide_eq_true h
    have hlt1 : i - 1 < f.names.length := by omega
    obtain ⟨r', g1'⟩ := hok.names.get (z := 1) (fun _ _ => rfl) Tryz.underlying23 z9 hlt1
    have i2 := g1' .i64
    have hcast : (((i - 1 : Nat)) : Int) = (i : Int) - 1 := by omega
    rw [hcast] at i2
    have hgd1 : f.names.getD (i - 1) ⟨0, 0⟩ = f.names[i - 1] := by rw [List.getD_eq_getElem?_getD, List.getElem?_eq_getElem hlt1]; rfl
    rw [hgd1]
    exact ⟨_, i2, JiV f.names[i - 1] r'⟩
   have w0 : IntKind.i64.wrap ((i : Int) - 1) = (i : Int) - 1 := Jo (by omega) (by omega)
   have w1 : IntKind.i64.wrap ((i : Int) + 1) = (i : Int) + 1 := Jo (by omega) (by omega)
   have hbad : Jdl f.names i = (!JbF f.names[i] || (decide (0 < i) && leS f.names[i] (f.names.getD (i - 1) ⟨0, 0⟩))) := by unfold Jdl; rw [hgd]
   rw [hbad] at hstep hnot
   clear hbad hgd
   have ele : ∀ kk, Jd Tryz.prog kk .leq 9 (.str f.names[i]) (.str (f.names.getD (i - 1) ⟨0, 0⟩)) = some (.bool (leS f.names[i] (f.names.getD (i - 1) ⟨0, 0⟩))) := fun kk => rfl
   have vn : veq 1000000000 f.nv f.nv = true := Qi _ hvz
   generalize leS f.names[i] (f.names.getD (i - 1) ⟨0, 0⟩) = le at ele hstep hnot
   generalize f.names.getD (i - 1) ⟨0, 0⟩ = pv at ele hprev
   generalize JbF f.names[i] = pn at hc hstep hnot
   generalize sC f.names[i] ++ r = sr at hld hld3 i1
   generalize f.names[i] = s at hld hld3 hc ele
   generalize decide (0 < i) = d0 at e0 hprev hstep hnot
   simp [h1, h3, f2, n2, lx, elen]
   repeat refine Does.seq ?_
   refine Does.condT (by simp) ?_
   refine Does.skip ?_
   simp
   repeat refine Does.seq ?_
   refine Does.block ?_
   repeat refine Does.seq ?_
   refine Does.mono (Q := fun e fr st'' => e = AE.normal ∧ JbN st3 st'' ∧ FcF gl id1 fr ∧ Fr.at fr 3 = .int .i64 (i : Int) ∧ Fr.at fr 74 = .bool (!pn || (d0 && le))) ?r8 ?t8
   case r8 => as_aux_lemma =>
    refine Does.draw (b := [0, 1, 0, 7, 15, 31, 63, 127, 255, 511, 1023, 2047, 4095, 2047, 16383, 32767, 2047, 67583, 2047, 264191, 985087, 2033663, 4194303, 8388607, 16777215]) (l := [0, 1, 2, 3, 4, 5, 6, 7, 8, 9, 10, 11, 12, 13, 14, 15, 16, 17, 18, 19, 20, 21, 22, 23, 24]) (by kernel_rfl) (by kernel_rfl) (by kernel_rfl) ?_
    cases pn with
    | false =>
     simp [JV, h1, h3, f2, t2, vn, i1, hld, JW, hg, Jg hk50, hc]
     exact ⟨rfl, by simp [hds], by simp [hg], by simp [h1]⟩
    | true =>
     cases d0 with
     | false =>
      simp [JV, h1, h3, f2, t2, vn, i1, hld, JW, hg, Jg hk50, hc, e0]
      exact ⟨rfl, by simp [hds], by simp [hg], by simp [h1]⟩
     | true =>
      obtain ⟨pa, i2, hl2⟩ := hprev rfl
      simp [JV, h1, h3, f2, t2, m2, vn, i1, hld, hld3, JW, hg, Jg hk50, hc, e0, JM, w0, i2, hl2, ele]
      exact ⟨rfl, by simp [hds], by simp [hg], by simp [h1]⟩
   case t8 => as_aux_lemma =>
   clear hds hg h1 h3
   rintro e fr st'' ⟨rfl, hst', ⟨hds, hg, h1⟩, h3, h74⟩
   rw [show st'' = st3 from hst']
   clear hst'
   simp only [andThen]
   repeat refine Does.seq ?_
   generalize (!pn || (d0 && le)) = bad at h74 hstep hnot
   cases bad with
   | true =>
    refine Does.condT (by simp [h74]) ?_
    repeat refine Does.seq ?_
    refine Does.region ?_
    simp
    refine Does.ret ?_
    simp only [andThen, inBlock]
    exact .inl ⟨rfl, hkt.trans hk3, by simp [hds], by simp, by rw [← hA]; exact hnot rfl⟩
   | false =>
    refine Does.condF (by simp [h74]) ?_
    refine Does.skip ?_
    simp only [andThen, inBlock]
    refine Does.region ?_
    simp [h3, Jz, w1]
    exact ⟨i + 1, by omega, hkt.trans hk3, ⟨by simp [hds], by simp [hg], by simp [h1]⟩, by simp, by omega, hstep rfl⟩
 case tail => as_aux_lemma =>
  clear hds hg h1
  rintro e fr st3 (⟨rfl, hk', hds, h2, rfl⟩ | ⟨rfl, hk', ⟨hds, hg, h1⟩, rfl⟩)
  ·simp only [andThen]
   simp [hds, h2]
   exact hk12.trans hk'
  simp only [andThen, Bool.true_and]
  have b3 : st3.box.get id1 = some (.cells f.cells 47 true (some 0)) := by rw [hk'.box _ hct2]; exact b2
  have m2 := Jb (P := Tryz.prog) (off := 2) a23 z23 b3 rfl
  have m4 := Jb (P := Tryz.prog) (off := 4) a3 z3 b3 rfl
  have m5 := Jb (P := Tryz.prog) (off := 5) a3 z3 b3 rfl
  have hkk := hk12.trans hk'
  unfold Jgf
  have r2 : ∀ kk, Jd Tryz.prog kk .eql 3 (.int .i64 f.rest) (.int .i64 2) = some (.bool (decide (f.rest = 2))) := fun kk => Qc
  have r0 : ∀ kk, Jd Tryz.prog kk .eql 3 (.int .i64 f.rest) (.int .i64 0) = some (.bool (decide (f.rest = 0))) := fun kk => Qc
  have r1 : ∀ kk, Jd Tryz.prog kk .eql 3 (.int .i64 f.rest) (.int .i64 1) = some (.bool (decide (f.rest = 1))) := fun kk => Qc
  have q0 : ∀ kk, Jd Tryz.prog kk .eql 3 (.int .i64 f.beside) (.int .i64 0) = some (.bool (decide (f.beside = 0))) := fun kk => Qc
  have qg : ∀ kk, Jd Tryz.prog kk .geq 3 (.int .i64 f.beside) (.int .i64 0) = some (.bool (decide (0 ≤ f.beside))) := fun kk => JP
  have ql : ∀ kk, Jd Tryz.prog kk .leq 3 (.int .i64 f.beside) (.int .i64 (f.names.length : Int)) = some (.bool (decide (f.beside ≤ (f.names.length : Int)))) := fun kk => JaD
  generalize decide (f.rest = 2) = d2 at r2
  generalize decide (f.rest = 0) = d0 at r0
  generalize decide (f.rest = 1) = d1 at r1
  generalize decide (f.beside = 0) = e0 at q0
  generalize decide (0 ≤ f.beside) = eg at qg
  generalize decide (f.beside ≤ (f.names.length : Int)) = el at ql
  generalize (f.names.length : Int) = nl at lx ql
  generalize f.nv = nv at m2 lx
  repeat refine Does.seq ?_
  refine Does.region ?_
  cases d2 with
  | true =>
   simp [h1, f4, m4, r2]
   repeat refine Does.seq ?_
   refine Does.condT (by simp) ?_
   repeat refine Does.seq ?_
   refine Does.region ?_
   cases eg with
   | false =>
    simp [h1, f5, m5, qg]
    refine Does.ret ?_
    simp [hds]
    exact hkk
   | true =>
    simp [h1, f5, m5, qg, f2, m2, lx, ql]
    refine Does.ret ?_
    simp [hds]
    exact hkk
  | false =>
   simp [h1, f4, m4, r2]
   repeat refine Does.seq ?_
   refine Does.condF (by simp) ?_
   refine Does.skip ?_
   simp
   repeat refine Does.seq ?_
   refine Does.region ?_
   cases d0 with
   | true =>
    simp [h1, f4, m4, r0, f5, m5, q0]
    refine Does.ret ?_
    simp [hds]
    exact hkk
   | false =>
    cases d1 with
    | false =>
     simp [h1, f4, m4, r0, r1]
     refine Does.ret ?_
     simp [hds]
     exact hkk
    | true =>
     simp [h1, f4, m4, r0, r1, f5, m5, q0]
     refine Does.ret ?_
     simp [hds]
     exact hkk
end Go.Vm
namespace Go.Vm
open Go Go.Proofs Go.Pa
attribute [local simp] Oks Qn Jh Jn vop Ju JG ev evs toV andThen inBlock Jm Fr.dsTo Fr.glTo Fr.toNone Jj Jk Jl Qj Jc JL Jv V.undef J5 QA QO
theorem fc3 (f : Fw) (r : List V) : Jq Tryz.prog 47 (.cp (f.cells ++ r)) 3 = some (.cp ((f.cells ++ r).drop 3)) := by kernel_rfl
theorem fl2 (f : Fw) (r : List V) (st : St) : JB Tryz.prog st 23 (.cp ((f.cells ++ r).drop 2)) = some f.nv := by
 simp only [JB, QS, a23, z23]; rfl
theorem fl3 (f : Fw) (r : List V) (st : St) : JB Tryz.prog st 45 (.cp ((f.cells ++ r).drop 3)) = some f.kv := by
 simp only [JB, QS, a36, z36]; rfl
variable [Memo] [NY]
end Go.Vm
namespace Go.Vm
open Go Go.Proofs Go.Pa
attribute [local simp] Oks Qn Jh Jn vop Ju JG ev evs toV andThen inBlock Jm Fr.dsTo Fr.glTo Fr.toNone Jj Jk Jl Qj Jc JL Jv V.undef J5 QA QO
structure Ns (st : St) (x : V) (l : List Int) : Prop where
 len : Q2 Tryz.prog 45 x = some (.int .i64 (l.length : Int))
 get : ∀ (j : Nat) (h : j < l.length), ∃ a, (∀ k, Je Tryz.prog 45 x (.int k (j : Int)) = some a) ∧ JB Tryz.prog st 3 a = some (.int .i64 l[j])
theorem Ns.ms {st : St} {id off : Nat} {cap : Option Nat} {cs : List V} {e : TypeId} {fl : Bool} {fz : Option Nat} {l : List Int} (hb : st.box.get id = some (.cells cs e fl fz)) (h : ∀ (j : Nat) (hj : j < l.length), cs[off + j]? = some (.int .i64 l[j])) : Ns st (.ms id off l.length 1 cap) l := by
 refine ⟨by simp [Q2, Tryz.underlying45], fun j hj => ⟨.ptr id (off + j), fun k => ?_, Jb a3 z3 hb (h j hj)⟩⟩
 have hblt : Nat.blt j l.length = true := by rw [Jbf]; exact decide_eq_true hj
 simp only [Je, Tryz.underlying45, QJ, z3, hblt, Nat.mul_one]
def JmJ (l : List Int) (i : Nat) : Prop := ∀ j (h : j < l.length), j < i → l[j] = 1
def OnQ (st : St) (A : Bool) (e : AE) (fr' : Fr) (st' : St) : Prop := JbN st st' ∧ fr'.ds = [] ∧ ((e = AE.ret ∧ (∃ r : Nat, Fr.at fr' 4 = .int .i64 (r : Int)) ∧ A = true) ∨ (e = AE.normal ∧ A = false))
variable [Memo] [NY]
theorem JlO (gl : Gl) (st : St) (n : Int) : W Tryz.prog (.call gl 57 [.int .i64 n]) st = .call (.val (.bool (!decide (n = 1))) st) := by
 have e1 : ∀ kk, Jd Tryz.prog kk .neq 3 (.int .i64 n) (.int .i64 1) = some (.bool (!decide (n = 1))) := fun kk => Jcf
 generalize decide (n = 1) = d at e1
 refine Jb3 (NY.no _ rfl rfl rfl _ _) Tryz.func57 rfl (by kernel_rfl) ?_
 repeat refine Does.seq ?_
 refine Does.region ?_
 simp
 repeat refine Does.seq ?_
 refine Does.region ?_
 simp [e1]
 refine Does.ret ?_
 simp []
set_option maxRecDepth 100000 in
theorem JiX (gl : Gl) (st : St) (x : V) (l : List Int) (hx : Ns st x l) (hl : l.length < 1000000) :
  ∃ v st', W Tryz.prog (.call gl 75 [x, .fn 57 [] []]) st = .call (.val v st') ∧ (∃ r : Int, v = .int .i64 r ∧ decide (0 ≤ r) = l.any (fun n => !decide (n = 1))) ∧ JbN st st' := by
 have hk31 : JR Tryz.prog 57 = true := by kernel_rfl
 have lx := hx.len
 refine Jat (NY.no _ rfl rfl rfl _ _) Tryz.func75 rfl (by kernel_rfl) ?_
 repeat refine Does.seq ?_
 refine Does.region ?_
 simp
 repeat refine Does.seq ?_
 refine Does.region ?_
 simp [lx]
 generalize hA : l.any (fun n => !decide (n = 1)) = A
 refine Does.mono (Q := OnQ st A) ?loop ?tail
 case tail => as_aux_lemma =>
  rintro e fr' st' ⟨hst', hds, ⟨rfl, ⟨r, h4⟩, hc⟩ | ⟨rfl, hc⟩⟩
  ·simp only [andThen]
   rw [show st' = st from hst']
   simp [hds, h4, hc]
   exact rfl
  ·simp only [andThen]
   rw [show st' = st from hst']
   repeat refine Does.seq ?_
   refine Does.region ?_
   simp
   refine Does.ret ?_
   simp [hds, hc]
   exact rfl
 case loop => as_aux_lemma =>
  refine Does.block (Does.up l.length (fun i fr st' => JbN st st' ∧ fr.ds = [] ∧ fr.gl = gl ∧ Fr.at fr 0 = x ∧ Fr.at fr 1 = .fn 57 [] [] ∧ Fr.at fr 7 = .int .i64 (l.length : Int) ∧ Fr.at fr 8 = .int .i64 (i : Int) ∧ i ≤ l.length ∧ JmJ l i) 0 ?init ?J4 ?step)
  case init => exact ⟨rfl, by simp, by simp, by simp, by simp, by simp, by simp, Nat.zero_le _, fun j _ h => absurd h (Nat.not_lt_zero j)⟩
  case J4 => exact fun i fr st' h => h.2.2.2.2.2.2.2.1
  case step =>
   rintro i fr st' ⟨hst', hds, hg, h0, h1, h7, h8, hi, hall⟩
   rw [show st' = st from hst']
   clear hst'
   have elen : ∀ kk, Jd Tryz.prog kk .lss 3 (.int .i64 (i : Int)) (.int .i64 (l.length : Int)) = some (.bool (decide (i < l.length))) := fun kk => JaZ rfl
   repeat refine Does.seq ?_
   refine Does.region ?_
   by_cases hlt : i < l.length
   rotate_left
   ·rw [decide_eq_false hlt] at elen
    simp [h7, h8, elen]
    repeat refine Does.seq ?_
    refine Does.condF (by simp) ?_
    refine Does.exit ?_
    simp only [inBlock, if_true, andThen]
    refine ⟨rfl, by simp [hds], .inr ⟨rfl, ?_⟩⟩
    rw [← hA, List.any_eq_false]
    intro n hn
    obtain ⟨j, hj, rfl⟩ := List.getElem_of_mem hn
    rw [hall j hj (by omega)]; simp
   ·rw [decide_eq_true hlt] at elen
    obtain ⟨a, g1, hld⟩ := hx.get i hlt
    have i1 := g1 .i64
    have hc := JZ (JlO gl st l[i])
    have hstep : decide (l[i] = 1) = true → JmJ l (i + 1) := fun h j hj hji => by
     by_cases he : j = i
     ·subst he; exact of_decide_eq_true h
     ·exact hall j hj (by omega)
    have hnot : decide (l[i] = 1) = false → l.any (fun n => !decide (n = 1)) = true := fun h => by
     rw [List.any_eq_true]
     exact ⟨l[i], List.getElem_mem hlt, by rw [h]; rfl⟩
    generalize decide (l[i] = 1) = d at hc hstep hnot
    generalize l[i] = n at hc hld
    have w1 : IntKind.i64.wrap ((i : Int) + 1) = (i : Int) + 1 := Jo (by omega) (by omega)
    simp [h7, h8, elen]
    repeat refine Does.seq ?_
    refine Does.condT (by simp) ?_
    refine Does.skip ?_
    simp
    repeat refine Does.seq ?_
    refine Does.block ?_
    repeat refine Does.seq ?_
    refine Does.region ?_
    simp [h8]
    repeat refine Does.seq ?_
    refine Does.region ?_
    simp [h0, h1, i1, hld, hg, Jg hk31, hc]
    repeat refine Does.seq ?_
    cases d with
    | false =>
     refine Does.condT (by simp) ?_
     repeat refine Does.seq ?_
     refine Does.region ?_
     simp
     refine Does.ret ?_
     simp only [andThen, inBlock]
     exact ⟨rfl, by simp [hds], .inl ⟨rfl, ⟨i, by simp⟩, by rw [← hA]; exact hnot rfl⟩⟩
    | true =>
     refine Does.condF (by simp) ?_
     refine Does.skip ?_
     simp only [andThen, inBlock]
     refine Does.region ?_
     simp [h8, Jz, w1]
     exact ⟨i + 1, by omega, rfl, by simp [hds], by simp [hg], by simp [h0], by simp [h1], by simp [h7], by simp, by omega, hstep rfl⟩
theorem Jie (gl : Gl) (st : St) (x : V) (l : List Int) (hx : Ns st x l) (hl : l.length < 1000000) :
  ∃ v st', W Tryz.prog (.call gl 56 [x, .fn 57 [] []]) st = .call (.val v st') ∧ v = .bool (l.any (fun n => !decide (n = 1))) ∧ JbN st st' := by
 have hk51 : JR Tryz.prog 75 = true := by kernel_rfl
 obtain ⟨v, st1, hc, ⟨r, rfl, hr⟩, hk1⟩ := JiX gl st x l hx hl
 have hc := JZ hc
 generalize l.any (fun n => !decide (n = 1)) = A at hr
 refine Jat (NY.no _ rfl rfl rfl _ _) Tryz.func56 rfl (by kernel_rfl) ?_
 repeat refine Does.seq ?_
 refine Does.region ?_
 simp
 repeat refine Does.seq ?_
 refine Does.region ?_
 have eg : ∀ kk, Jd Tryz.prog kk .geq 3 (.int .i64 r) (.int .i64 0) = some (.bool A) := fun kk => by rw [JP, ← hr]
 simp [Jg hk51, hc, eg]
 refine Does.ret ?_
 simp
 exact hk1
end Go.Vm
namespace Go.Vm
open Go Go.Proofs Go.Pa
attribute [local simp] Oks Qn Jh Jn vop Ju JG ev evs toV andThen inBlock Jm Fr.dsTo Fr.glTo Fr.toNone Jj Jk Jl Qj Jc JL Jv V.undef J5 QA QO
def Je8 (n i : Nat) (k : Int) : Bool := decide ((i : Int) < k) && decide (k < (n : Int))
def Jet (n i : Nat) (f : Fw) : Bool := Ja8 f && f.kids.all (Je8 n i)
def Jdn (l : List Fw) : Bool := (List.range l.length).all fun i => match l[i]? with
 | some f => Jet l.length i f
 | none => true
def JT (l : List Fw) : List Int := l.flatMap Fw.kids
def Jap : List Fw → Bool
 | [] => false
 | f :: _ => Jbn f
def stC (n : Nat) (K : List Int) : List Int := (List.range n).map fun (m : Nat) => ((K.count (m : Int) : Nat) : Int)
def Jeu (l : List Fw) : Bool := Jap l && Jdn l && !((stC l.length (JT l)).drop 1).any (fun n => !decide (n = 1))
theorem Jc0 (n : Nat) (K : List Int) : (stC n K).length = n := by simp [stC]
theorem Jev {n : Nat} (K : List Int) {m : Nat} (h : m < n) : (stC n K)[m]? = some ((K.count (m : Int) : Nat) : Int) := by simp [stC, h]
theorem Jn8 (n : Nat) (K : List Int) {k : Nat} (hk : k < n) : (stC n K).set k ((K.count (k : Int) : Nat) + 1 : Int) = stC n (K ++ [(k : Int)]) := by
 apply List.ext_getElem?
 intro m
 by_cases hm : m < n
 ·rw [Jev _ hm, List.getElem?_set, List.count_append]
  by_cases he : k = m
  ·subst he
   rw [if_pos rfl, if_pos (by rw [Jc0]; exact hk)]
   simp
  ·rw [if_neg he, Jev _ hm]
   have : List.count (m : Int) [(k : Int)] = 0 := by
    rw [List.count_eq_zero]; simp; omega
   rw [this]; simp
 ·rw [List.getElem?_eq_none (by rw [List.length_set, Jc0]; omega), List.getElem?_eq_none (by rw [Jc0]; omega)]
theorem Jn9 (n : Nat) : (stC n []).map (V.int .i64) = List.replicate n (.int .i64 0) := by
 apply List.ext_getElem?
 intro m
 by_cases hm : m < n <;> simp [stC, hm]
def JfX (l : List Fw) (i : Nat) : Prop := ∀ j (h : j < l.length), j < i → Jet l.length j l[j] = true
theorem Jht {l : List Fw} {i : Nat} (h : JfX l i) (hi : l.length ≤ i) : Jdn l = true := by
 unfold Jdn
 rw [List.all_eq_true]
 intro j hj
 have hj := List.mem_range.1 hj
 rw [List.getElem?_eq_getElem hj]
 exact h j hj (by omega)
theorem JmK {l : List Fw} {i : Nat} (hi : i < l.length) (h : Jet l.length i l[i] = false) : Jdn l = false := by
 unfold Jdn
 rw [Bool.eq_false_iff]
 intro hc
 rw [List.all_eq_true] at hc
 have := hc i (List.mem_range.2 hi)
 rw [List.getElem?_eq_getElem hi] at this
 simp only [h] at this
 cases this
theorem Jkc {l : List Fw} {i : Nat} (h : JfX l i) (hi : i < l.length) (hb : Jet l.length i l[i] = true) : JfX l (i + 1) := fun j hj hji => by
 by_cases he : j = i
 ·subst he; exact hb
 ·exact h j hj (by omega)
def JbO (st : St) (f : Fw) : St := { ctr := st.ctr + 1, box := (st.box.put st.ctr (.cells [.bool false, .int .u8 0, .nils, .nils, .int .i64 0, .int .i64 0] 47 true (some 0))).put st.ctr (.cells f.cells 47 true (some 0)) }
theorem Jc1 (st : St) (f : Fw) : Keep st (JbO st f) := Keep.put ((Keep.refl st).new _) (Nat.le_refl _) _
theorem Jdo (st : St) (f : Fw) : (JbO st f).box.get st.ctr = some (.cells f.cells 47 true (some 0)) := by unfold JbO; rw [Tr.get_put, if_pos rfl]
theorem Jdp (st : St) (f : Fw) : st.ctr < (JbO st f).ctr := Nat.lt_succ_self _
theorem Jcs (st : St) {f : Fw} (h : f.ok) : Jaw Tryz.prog { ctr := st.ctr + 1, box := st.box.put st.ctr (.cells [.bool false, .int .u8 0, .nils, .nils, .int .i64 0, .int .i64 0] 47 true (some 0)) } 47 (.ptr st.ctr 0) (.agg f.cells) = some (JbO st f) :=
 JcC z38 (by rw [Tr.get_put, if_pos rfl]) rfl f.len6 (Fw.ones h)
def StB (idS n : Nat) (K : List Int) (st : St) : Prop := idS < st.ctr ∧ st.box.get idS = some (.cells ((stC n K).map (V.int .i64)) 3 true (some 0))
def MyI (gl : Gl) (x : V) (idS n i : Nat) (fr : Fr) : Prop := fr.ds = [] ∧ fr.gl = gl ∧ Fr.at fr 0 = x ∧ Fr.at fr 3 = .ms idS 0 n 1 (some n) ∧ Fr.at fr 21 = x ∧ Fr.at fr 22 = .int .i64 (n : Int) ∧ Fr.at fr 23 = .int .i64 (i : Int)
def MyQ (gl : Gl) (_x : V) (idS n : Nat) (st : St) (K : List Int) (A : Bool) (e : AE) (fr : Fr) (st' : St) : Prop :=
 Keep st st' ∧ ((e = AE.ret ∧ fr.ds = [] ∧ Fr.at fr 2 = .bool false ∧ A = false) ∨ (e = AE.normal ∧ fr.ds = [] ∧ fr.gl = gl ∧ Fr.at fr 3 = .ms idS 0 n 1 (some n) ∧ StB idS n K st' ∧ A = true))
def MyK (gl : Gl) (x : V) (idS n i : Nat) (st : St) (K : List Int) (A : Bool) (e : AE) (fr : Fr) (st' : St) : Prop :=
 Keep st st' ∧ ((e = AE.ret ∧ fr.ds = [] ∧ Fr.at fr 2 = .bool false ∧ A = false) ∨ (e = AE.normal ∧ MyI gl x idS n i fr ∧ StB idS n K st' ∧ A = true))
variable [Memo] [NY]
set_option maxHeartbeats 1000000 in
set_option maxRecDepth 100000 in
theorem Jgg (gl : Gl) {aL : List V} (hh : Hits gl aL) (st : St) (x : V) (l : List Fw) (hx : Row Fw.cells x l) (hok : ∀ f ∈ l, f.ok) (hs : ∀ f ∈ l, f.small) (hl : l.length ≤ 60) :
  ∃ v st', W Tryz.prog (.call gl 33 [x]) st = .call (.val v st') ∧ v = .bool (Jeu l) ∧ Keep st st' := by
 have hk28 : JR Tryz.prog 54 = true := by kernel_rfl
 have hk29 : JR Tryz.prog 55 = true := by kernel_rfl
 have hk30 : JR Tryz.prog 56 = true := by kernel_rfl
 have lx := hx.len Tryz.underlying22
 refine Jat (NY.no _ rfl rfl rfl _ _) Tryz.func33 rfl (by kernel_rfl) ?_
 repeat refine Does.seq ?_
 refine Does.region ?_
 simp
 repeat refine Does.seq ?_
 have e0 : ∀ kk, Jd Tryz.prog kk .eql 3 (.int .i64 (l.length : Int)) (.int .i64 0) = some (.bool (decide (l.length = 0))) := fun kk => JbE rfl
 refine Does.mono (Q := fun e fr st' => e = AE.normal ∧ Keep st st' ∧ fr.ds = [] ∧ fr.gl = gl ∧ Fr.at fr 0 = x ∧ Fr.at fr 17 = .bool (!Jap l)) ?r1 ?t1
 case r1 => as_aux_lemma =>
  refine Does.region ?_
  cases l with
  | nil =>
   have lx' : Q2 Tryz.prog 22 x = some (.int .i64 0) := lx
   have e0' : ∀ kk, Jd Tryz.prog kk .eql 3 (.int .i64 0) (.int .i64 0) = some (.bool true) := e0
   simp [lx', e0', Jap]
   exact .refl _
  | cons f r =>
   obtain ⟨rr, g1⟩ := hx.get (z := 6) (fun f _ => f.len6) Tryz.underlying22 z38 (show 0 < (f :: r).length by simp)
   have i1 : Je Tryz.prog 22 x (.int .i64 0) = some (.cp (f.cells ++ rr)) := g1 .i64
   have hld := Jge f rr st
   obtain ⟨v, st2, hc, rfl, hk⟩ := JpO gl st f (hok f (by simp))
   have hc := JZ hc
   rw [decide_eq_false (by simp)] at e0
   rw [show Jap (f :: r) = Jbn f from rfl]
   generalize Jbn f = d at hc
   generalize f.cells ++ rr = wr at i1 hld
   generalize f.cells = cs at hld hc
   generalize ((f :: r).length : Int) = ln at lx e0
   simp [lx, e0, i1, hld, Jg hk28, hc]
   exact hk
 case t1 => as_aux_lemma =>
 rintro e fr st1 ⟨rfl, hk1, hds, hg, h0, h17⟩
 simp only [andThen]
 repeat refine Does.seq ?_
 unfold Jeu
 generalize hAN : ((stC l.length (JT l)).drop 1).any (fun n => !decide (n = 1)) = AN
 cases hH : Jap l with
 | false =>
  rw [hH] at h17
  refine Does.condT (by simp [h17]) ?_
  repeat refine Does.seq ?_
  refine Does.region ?_
  simp
  refine Does.ret ?_
  simp [hds]
  exact hk1
 | true =>
 rw [hH] at h17
 refine Does.condF (by simp [h17]) ?_
 refine Does.skip ?_
 simp only [andThen, Bool.true_and]
 repeat refine Does.seq ?_
 refine Does.region ?_
 have hmk : JfJ Tryz.prog st1 45 (.int .i64 (l.length : Int)) (.int .i64 (l.length : Int)) = some (.ms st1.ctr 0 l.length 1 (some l.length), { ctr := st1.ctr + 1, box := st1.box.put st1.ctr (.cells ((stC l.length []).map (V.int .i64)) 3 true (some 0)) }) := by
  obtain ⟨i, hi, hz1, hz2⟩ : ∃ i, Tryz.prog.info? 3 = some i ∧ i.size = 1 ∧ i.bytes ≤ 64 := ⟨_, rfl, by decide, by decide⟩
  have hz : Q4 Tryz.prog 3 = some (.int .i64 0) := by kernel_rfl
  have b1 : Nat.ble (i.bytes * l.length) JH = true := Nat.ble_eq_true_of_le (Nat.le_trans (Nat.mul_le_mul hz2 hl) (by decide))
  have b2 : Nat.ble l.length JH = true := Nat.ble_eq_true_of_le (Nat.le_trans hl (by decide))
  have bl : Nat.ble l.length l.length = true := Nat.ble_eq_true_of_le (Nat.le_refl _)
  have hzb : Nat.beq (V.cells (.int .i64 0)).length i.size = true := by rw [hz1]; rfl
  have hz0 : Nat.beq i.size 0 = false := by rw [hz1]; rfl
  rw [Jn9, ← Jfz]
  simp only [JfJ, Tryz.underlying45, hi, hz, QJ, b1, b2, bl, hz1]
  rfl
 have hSt : StB st1.ctr l.length [] { ctr := st1.ctr + 1, box := st1.box.put st1.ctr (.cells ((stC l.length []).map (V.int .i64)) 3 true (some 0)) } := ⟨Nat.lt_succ_self _, by rw [Tr.get_put, if_pos rfl]⟩
 have hk2 : Keep st1 { ctr := st1.ctr + 1, box := st1.box.put st1.ctr (.cells ((stC l.length []).map (V.int .i64)) 3 true (some 0)) } := (Keep.refl st1).new _
 have hidS : st1.ctr ≤ st1.ctr := Nat.le_refl _
 generalize ({ ctr := st1.ctr + 1, box := st1.box.put st1.ctr (.cells ((stC l.length []).map (V.int .i64)) 3 true (some 0)) } : St) = st2 at hmk hSt hk2
 generalize hidd : st1.ctr = idS at hmk hSt hidS
 simp [h0, lx, QN, hmk]
 repeat refine Does.seq ?_
 refine Does.region ?_
 simp [h0, lx]
 generalize hA : Jdn l = A
 have hk12 := hk1.trans hk2
 refine Does.mono (Q := MyQ gl x idS l.length st1 (JT l) A) ?loop ?tail
 case tail => as_aux_lemma =>
  clear hds hg h0 h17
  rintro e fr st' ⟨hk, ⟨rfl, hds, h2, hc⟩ | ⟨rfl, hds, hg, h3, ⟨_, hb⟩, hc⟩⟩
  ·simp only [andThen]
   simp [hds, h2, hc]
   exact hk1.trans hk
  ·simp only [andThen]
   have hsl : Jac Tryz.prog 45 (.ms idS 0 l.length 1 (some l.length)) (some (.int .i64 1)) none = some (.ms idS (0 + 1 * 1) (l.length - 1) 1 (some (l.length - 1))) := by
    have hl1 : 1 ≤ l.length := by
     cases l with
     | nil => simp [Jap] at hH
     | cons f r => simp
    have hb1 : Nat.ble 1 l.length = true := Nat.ble_eq_true_of_le hl1
    have hbl : JdI l.length l.length (some l.length) = true := by simp [JdI, JbD]
    have h1c : JaO (.int .i64 1) = some 1 := rfl
    simp only [Jac, Tryz.underlying45, J4, h1c, z3, hb1, hbl, Nat.beq_refl, Bool.and_true, Jel]
    rfl
   have hdl : ((stC l.length (JT l)).drop 1).length = l.length - 1 := by rw [List.length_drop, Jc0]
   have hns : Ns st' (.ms idS 1 ((stC l.length (JT l)).drop 1).length 1 (some (l.length - 1))) ((stC l.length (JT l)).drop 1) := Ns.ms hb (fun j hj => by
    have hj' : 1 + j < (stC l.length (JT l)).length := by rw [hdl] at hj; rw [Jc0]; omega
    rw [List.getElem?_map, List.getElem?_eq_getElem hj', List.getElem_drop]
    rfl)
   obtain ⟨v, st3, hc3, rfl, hst3⟩ := Jie gl st' _ _ hns (by rw [hdl]; omega)
   have hc3 := JZ hc3
   rw [show st3 = st' from hst3] at hc3
   rw [hdl] at hc3
   rw [hAN] at hc3
   simp only [Nat.mul_one, Nat.zero_add] at hsl
   repeat refine Does.seq ?_
   refine Does.region ?_
   simp [h3, hsl, hg, Jg hk30, hc3]
   refine Does.ret ?_
   simp [hds, hc]
   exact hk1.trans hk
 case loop => as_aux_lemma =>
  refine Does.block (Does.up l.length (fun i fr st' => Keep st1 st' ∧ MyI gl x idS l.length i fr ∧ StB idS l.length (JT (l.take i)) st' ∧ (JT (l.take i)).length ≤ i * 60 ∧ i ≤ l.length ∧ JfX l i) 0 ?init ?J4 ?step)
  case init => exact ⟨hk2, ⟨by simp [hds], by simp [hg], by simp [h0], by simp, by simp, by simp, by simp⟩, hSt, Nat.zero_le _, Nat.zero_le _, fun j _ h => absurd h (Nat.not_lt_zero j)⟩
  case J4 => exact fun i fr st' h => h.2.2.2.2.1
  case step =>
   clear hds hg h0 h17
   rintro i fr st' ⟨hk, ⟨hds, hg, h0, h3, h21, h22, h23⟩, hSB, hKl, hi, hall⟩
   have elen : ∀ kk, Jd Tryz.prog kk .lss 3 (.int .i64 (i : Int)) (.int .i64 (l.length : Int)) = some (.bool (decide (i < l.length))) := fun kk => JaZ rfl
   repeat refine Does.seq ?_
   refine Does.region ?_
   by_cases hlt : i < l.length
   rotate_left
   ·rw [decide_eq_false hlt] at elen
    simp [h22, h23, elen]
    repeat refine Does.seq ?_
    refine Does.condF (by simp) ?_
    refine Does.exit ?_
    simp only [inBlock, if_true, andThen]
    rw [List.take_of_length_le (by omega)] at hSB
    exact ⟨hk, .inr ⟨rfl, by simp [hds], by simp [hg], by simp [h3], hSB, by rw [← hA]; exact Jht hall (by omega)⟩⟩
   rw [decide_eq_true hlt] at elen
   obtain ⟨r, g1⟩ := hx.get (z := 6) (fun f _ => f.len6) Tryz.underlying22 z38 hlt
   have i1 := g1 .i64
   have hm := List.getElem_mem hlt
   have hfok := hok _ hm
   have hfs := hs _ hm
   have hld := Jge l[i] r st'
   have hpk := Jc1 st' l[i]
   have hpb := Jdo st' l[i]
   have hps := Jcs st' hfok
   have hpc := Jdp st' l[i]
   have hSB1 : StB idS l.length (JT (l.take i)) (JbO st' l[i]) := ⟨Nat.lt_of_lt_of_le hSB.1 hpk.ctr, by rw [hpk.box _ hSB.1]; exact hSB.2⟩
   have hstep := Jkc hall hlt
   have hnot := JmK hlt
   have htk : JT (l.take (i + 1)) = JT (l.take i) ++ l[i].kids := by
    unfold JT
    rw [List.take_add_one, List.getElem?_eq_getElem hlt, List.flatMap_append]
    simp
   rw [show Jet l.length i l[i] = (Ja8 l[i] && l[i].kids.all (Je8 l.length i)) from rfl] at hstep hnot
   have w1 : IntKind.i64.wrap ((i : Int) + 1) = (i : Int) + 1 := Jo (by omega) (by omega)
   simp [h22, h23, elen]
   repeat refine Does.seq ?_
   refine Does.condT (by simp) ?_
   refine Does.skip ?_
   simp
   repeat refine Does.seq ?_
   generalize JbO st' l[i] = st3 at hpk hpb hps hpc hSB1
   generalize hid5 : st'.ctr = id5 at hpb hps hpc
   generalize l[i] = f at i1 hld hpb hps hfok hfs hstep hnot htk
   refine Does.block ?_
   repeat refine Does.seq ?_
   refine Does.region ?_
   refine Oks.cont (Q := fun fr st'' => JbN st3 st'' ∧ MyI gl x idS l.length i fr ∧ Fr.at fr 4 = .int .i64 (i : Int) ∧ Fr.at fr 5 = .ptr id5 0) ?r6 ?t6
   case r6 => as_aux_lemma =>
    generalize f.cells ++ r = wr at i1 hld
    generalize f.cells = cs at hld hps
    simp [h21, h23, i1, hld, JK, QG, V.cells, JN, Qb, QN, hid5, hps]
    exact ⟨rfl, by simp [hds], by simp [hg], by simp [h0], by simp [h3], by simp [h21], by simp [h22], by simp [h23]⟩
   case t6 => as_aux_lemma =>
   clear hds hg h0 h3 h21 h22 h23
   rintro fr st'' ⟨hst', ⟨hds, hg, h0, h3, h21, h22, h23⟩, h4, h5⟩
   rw [show st'' = st3 from hst']
   clear hst'
   simp only [andThen]
   have l38 := Jid hpb
   obtain ⟨v, st4, hc, rfl, hk4⟩ := Jn6 gl hh st3 f hfok (by have := hfs.names; omega)
   have hc := JZ hc
   have hSB2 : StB idS l.length (JT (l.take i)) st4 := ⟨Nat.lt_of_lt_of_le hSB1.1 hk4.ctr, by rw [hk4.box _ hSB1.1]; exact hSB1.2⟩
   have b4 : st4.box.get id5 = some (.cells f.cells 47 true (some 0)) := by rw [hk4.box _ hpc]; exact hpb
   have hkk := (hk.trans hpk).trans hk4
   repeat refine Does.seq ?_
   refine Does.region ?_
   refine Oks.cont (Q := fun fr st'' => JbN st4 st'' ∧ MyI gl x idS l.length i fr ∧ Fr.at fr 4 = .int .i64 (i : Int) ∧ Fr.at fr 5 = .ptr id5 0 ∧ Fr.at fr 30 = .bool (!Ja8 f)) ?r7 ?t7
   case r7 => as_aux_lemma =>
    generalize f.cells = cs at l38 hc
    generalize Ja8 f = o at hc
    simp [h5, l38, hg, Jg hk29, hc]
    exact ⟨rfl, ⟨by simp [hds], by simp [hg], by simp [h0], by simp [h3], by simp [h21], by simp [h22], by simp [h23]⟩, by simp [h4]⟩
   case t7 => as_aux_lemma =>
   clear hds hg h0 h3 h21 h22 h23 h4 h5 hc
   rintro fr st'' ⟨hst', ⟨hds, hg, h0, h3, h21, h22, h23⟩, h4, h5, h30⟩
   rw [show st'' = st4 from hst']
   clear hst'
   simp only [andThen]
   repeat refine Does.seq ?_
   cases hO : Ja8 f with
   | false =>
    rw [hO] at h30 hnot
    refine Does.condT (by simp [h30]) ?_
    repeat refine Does.seq ?_
    refine Does.region ?_
    simp
    refine Does.ret ?_
    simp only [andThen, inBlock]
    exact ⟨hkk, .inl ⟨rfl, by simp [hds], by simp, by rw [← hA]; exact hnot rfl⟩⟩
   | true =>
   rw [hO] at h30 hnot hstep
   refine Does.condF (by simp [h30]) ?_
   refine Does.skip ?_
   simp only [andThen]
   simp only [Bool.true_and] at hnot hstep
   have lk := hfok.kids.len Tryz.underlying45
   have m3 := Jb (P := Tryz.prog) (off := 3) a36 z36 b4 rfl
   have f3 := fg3 id5
   repeat refine Does.seq ?_
   refine Does.region ?_
   refine Oks.cont (Q := fun fr st'' => JbN st4 st'' ∧ MyI gl x idS l.length i fr ∧ Fr.at fr 4 = .int .i64 (i : Int) ∧ Fr.at fr 32 = f.kv ∧ Fr.at fr 33 = .int .i64 (f.kids.length : Int) ∧ Fr.at fr 34 = .int .i64 0) ?r9 ?t9
   case r9 => as_aux_lemma =>
    simp [h5, f3, m3, lk]
    exact ⟨rfl, ⟨by simp [hds], by simp [hg], by simp [h0], by simp [h3], by simp [h21], by simp [h22], by simp [h23]⟩, by simp [h4]⟩
   case t9 => as_aux_lemma =>
   clear hds hg h0 h3 h21 h22 h23 h4 h5 h30
   rintro fr st'' ⟨hst', ⟨hds, hg, h0, h3, h21, h22, h23⟩, h4, h32, h33, h34⟩
   rw [show st'' = st4 from hst']
   clear hst'
   simp only [andThen]
   repeat refine Does.seq ?_
   generalize hKA : f.kids.all (Je8 l.length i) = KA at hnot hstep
   refine Does.mono (Q := MyK gl x idS l.length i st1 (JT (l.take (i + 1))) KA) ?kids ?next
   case next => as_aux_lemma =>
    clear hds hg h0 h3 h21 h22 h23 h4 h32 h33 h34
    rintro e fr st5 ⟨hk5, ⟨rfl, hds, h2, hc⟩ | ⟨rfl, ⟨hds, hg, h0, h3, h21, h22, h23⟩, hSB5, hc⟩⟩
    ·simp only [andThen, inBlock]
     exact ⟨hk5, .inl ⟨rfl, hds, h2, by rw [← hA]; exact hnot hc⟩⟩
    ·simp only [andThen, inBlock]
     refine Does.region ?_
     simp [h23, Jz, w1]
     refine ⟨i + 1, by omega, hk5, ⟨by simp [hds], by simp [hg], by simp [h0], by simp [h3], by simp [h21], by simp [h22], by simp⟩, hSB5, ?_, by omega, hstep hc⟩
     rw [htk, List.length_append]
     have := hfs.kids
     omega
   case kids => as_aux_lemma =>
    refine Does.block (Does.up f.kids.length (fun j fr st' => Keep st1 st' ∧ MyI gl x idS l.length i fr ∧ Fr.at fr 4 = .int .i64 (i : Int) ∧ Fr.at fr 32 = f.kv ∧ Fr.at fr 33 = .int .i64 (f.kids.length : Int) ∧ Fr.at fr 34 = .int .i64 (j : Int) ∧ StB idS l.length (JT (l.take i) ++ f.kids.take j) st' ∧ j ≤ f.kids.length ∧ ∀ m (h : m < f.kids.length), m < j → Je8 l.length i f.kids[m] = true) 0 ?init ?J4 ?step)
    case init => exact ⟨hkk, ⟨hds, hg, h0, h3, h21, h22, h23⟩, h4, h32, h33, h34, by simpa using hSB2, Nat.zero_le _, fun m _ h => absurd h (Nat.not_lt_zero m)⟩
    case J4 => exact fun i fr st' h => h.2.2.2.2.2.2.2.1
    case step =>
     clear hds hg h0 h3 h21 h22 h23 h4 h32 h33 h34 hSB2 hSB1 hpb hpk hps hk4 b4 m3 hkk hk hSB
     rintro j fr st' ⟨hk, ⟨hds, hg, h0, h3, h21, h22, h23⟩, h4, h32, h33, h34, hSB, hj, hkt⟩
     have ej : ∀ kk, Jd Tryz.prog kk .lss 3 (.int .i64 (j : Int)) (.int .i64 (f.kids.length : Int)) = some (.bool (decide (j < f.kids.length))) := fun kk => JaZ rfl
     repeat refine Does.seq ?_
     refine Does.region ?_
     by_cases hjt : j < f.kids.length
     rotate_left
     ·rw [decide_eq_false hjt] at ej
      simp [h33, h34, ej]
      repeat refine Does.seq ?_
      refine Does.condF (by simp) ?_
      refine Does.exit ?_
      simp only [inBlock, if_true, andThen]
      rw [List.take_of_length_le (l := f.kids) (by omega), ← htk] at hSB
      refine ⟨hk, .inr ⟨rfl, ⟨by simp [hds], by simp [hg], by simp [h0], by simp [h3], by simp [h21], by simp [h22], by simp [h23]⟩, hSB, ?_⟩⟩
      rw [← hKA, List.all_eq_true]
      intro k hkm
      obtain ⟨m, hm, rfl⟩ := List.getElem_of_mem hkm
      exact hkt m hm (by omega)
     rw [decide_eq_true hjt] at ej
     obtain ⟨r', g2⟩ := hfok.kids.get (z := 1) (fun _ _ => rfl) Tryz.underlying45 z3 hjt
     have i2 := g2 .i64
     have hld2 := JmI f.kids[j] r' st'
     have wj : IntKind.i64.wrap ((j : Int) + 1) = (j : Int) + 1 := Jo (by omega) (by have := hfs.kids; omega)
     have hknext : Je8 l.length i f.kids[j] = true → ∀ m (h : m < f.kids.length), m < j + 1 → Je8 l.length i f.kids[m] = true := fun hb m hm hmj => by
      by_cases he : m = j
      ·subst he; exact hb
      ·exact hkt m hm (by omega)
     have hkno : Je8 l.length i f.kids[j] = false → f.kids.all (Je8 l.length i) = false := fun hb => by
      rw [Bool.eq_false_iff]
      intro hc
      rw [List.all_eq_true] at hc
      have := hc _ (List.getElem_mem hjt)
      rw [hb] at this; cases this
     have htj : f.kids.take (j + 1) = f.kids.take j ++ [f.kids[j]] := by
      rw [List.take_add_one, List.getElem?_eq_getElem hjt]; rfl
     have hKj : (JT (l.take i) ++ f.kids.take j).length < 1000000 := by
      rw [List.length_append]
      have h1 : (f.kids.take j).length ≤ j := by simp; omega
      have := hfs.kids
      omega
     rw [hKA] at hkno
     have ele : ∀ kk, Jd Tryz.prog kk .leq 3 (.int .i64 f.kids[j]) (.int .i64 (i : Int)) = some (.bool (!decide ((i : Int) < f.kids[j]))) := fun kk => by
      rw [JaD]; congr 2
      by_cases h : (i : Int) < f.kids[j]
      ·rw [decide_eq_true h, decide_eq_false (by omega)]; rfl
      ·rw [decide_eq_false h, decide_eq_true (by omega)]; rfl
     have ege : ∀ kk, Jd Tryz.prog kk .geq 3 (.int .i64 f.kids[j]) (.int .i64 (l.length : Int)) = some (.bool (!decide (f.kids[j] < (l.length : Int)))) := fun kk => by
      rw [JP]; congr 2
      by_cases h : f.kids[j] < (l.length : Int)
      ·rw [decide_eq_true h, decide_eq_false (by omega)]; rfl
      ·rw [decide_eq_false h, decide_eq_true (by omega)]; rfl
     have hkb : Je8 l.length i f.kids[j] = (decide ((i : Int) < f.kids[j]) && decide (f.kids[j] < (l.length : Int))) := rfl
     generalize iC f.kids[j] ++ r' = kr at i2 hld2
     generalize f.kids[j] = k at hld2 hknext hkno htj ele ege hkb
     simp [h33, h34, ej]
     repeat refine Does.seq ?_
     refine Does.condT (by simp) ?_
     refine Does.skip ?_
     simp
     repeat refine Does.seq ?_
     refine Does.block ?_
     repeat refine Does.seq ?_
     refine Does.region ?_
     simp [h32, h34, i2, hld2]
     repeat refine Does.seq ?_
     refine Does.region ?_
     refine Oks.cont (Q := fun fr st'' => JbN st' st'' ∧ MyI gl x idS l.length i fr ∧ Fr.at fr 4 = .int .i64 (i : Int) ∧ Fr.at fr 7 = .int .i64 k ∧ Fr.at fr 32 = f.kv ∧ Fr.at fr 33 = .int .i64 (f.kids.length : Int) ∧ Fr.at fr 34 = .int .i64 (j : Int) ∧ Fr.at fr 46 = .bool (!Je8 l.length i k)) ?r12 ?t12
     case r12 => as_aux_lemma =>
      rw [hkb]
      generalize decide ((i : Int) < k) = d1 at ele
      generalize decide (k < (l.length : Int)) = d2 at ege
      cases d1 with
      | false =>
       simp [h4, ele]
       exact ⟨rfl, ⟨by simp [hds], by simp [hg], by simp [h0], by simp [h3], by simp [h21], by simp [h22], by simp [h23]⟩, by simp [h32], by simp [h33], by simp [h34]⟩
      | true =>
       simp [h0, h4, ele, lx, ege]
       exact ⟨rfl, ⟨by simp [hds], by simp [hg], by simp [h0], by simp [h3], by simp [h21], by simp [h22], by simp [h23]⟩, by simp [h32], by simp [h33], by simp [h34]⟩
     case t12 => as_aux_lemma =>
     clear hds hg h0 h3 h21 h22 h23 h4 h32 h33 h34 ele ege
     rintro fr st'' ⟨hst', ⟨hds, hg, h0, h3, h21, h22, h23⟩, h4, h7, h32, h33, h34, h46⟩
     rw [show st'' = st' from hst']
     clear hst'
     simp only [andThen]
     repeat refine Does.seq ?_
     cases hKB : Je8 l.length i k with
     | false =>
      rw [hKB] at h46
      refine Does.condT (by simp [h46]) ?_
      repeat refine Does.seq ?_
      refine Does.region ?_
      simp
      refine Does.ret ?_
      simp only [andThen, inBlock]
      exact ⟨hk, .inl ⟨rfl, by simp [hds], by simp, hkno hKB⟩⟩
     | true =>
     rw [hKB] at h46 hkb
     obtain ⟨hik, hkn⟩ : (i : Int) < k ∧ k < (l.length : Int) := by
      have := hkb.symm
      simp only [Bool.and_eq_true, decide_eq_true_eq] at this
      exact this
     obtain ⟨m, rfl⟩ : ∃ m : Nat, k = (m : Int) := ⟨k.toNat, by omega⟩
     have hml : m < l.length := by omega
     refine Does.condF (by simp [h46]) ?_
     refine Does.skip ?_
     simp only [andThen]
     have hblt : Nat.blt m l.length = true := by rw [Jbf]; exact decide_eq_true hml
     have i3 : Je Tryz.prog 45 (.ms idS 0 l.length 1 (some l.length)) (.int .i64 (m : Int)) = some (.ptr idS m) := by
      simp only [Je, Tryz.underlying45, QJ, z3, hblt, Nat.mul_one, Nat.zero_add]
     have hget : ((stC l.length (JT (l.take i) ++ f.kids.take j)).map (V.int .i64))[m]? = some (.int .i64 (((JT (l.take i) ++ f.kids.take j).count (m : Int) : Nat) : Int)) := by
      rw [List.getElem?_map, Jev _ hml]; rfl
     have hld3 := Jb (P := Tryz.prog) (off := m) a3 z3 hSB.2 hget
     have hcl := List.count_le_length (a := (m : Int)) (l := JT (l.take i) ++ f.kids.take j)
     have wc : IntKind.i64.wrap ((((JT (l.take i) ++ f.kids.take j).count (m : Int) : Nat) : Int) + 1) = (((JT (l.take i) ++ f.kids.take j).count (m : Int) : Nat) : Int) + 1 := Jo (by omega) (by omega)
     have hst := JaE (P := Tryz.prog) (st := st') (t := 3) (off := m) (v := .int .i64 ((((JT (l.take i) ++ f.kids.take j).count (m : Int) : Nat) : Int) + 1)) z3 hSB.2 (by rw [List.length_map, Jc0]; exact hml) rfl
     rw [← List.map_set, Jn8 _ _ hml, List.append_assoc, ← htj] at hst
     have hSB3 : StB idS l.length (JT (l.take i) ++ f.kids.take (j + 1)) { st' with box := st'.box.put idS (.cells ((stC l.length (JT (l.take i) ++ f.kids.take (j + 1))).map (V.int .i64)) 3 true (some 0)) } := ⟨hSB.1, by rw [Tr.get_put, if_pos rfl]⟩
     have hk3 : Keep st1 { st' with box := st'.box.put idS (.cells ((stC l.length (JT (l.take i) ++ f.kids.take (j + 1))).map (V.int .i64)) 3 true (some 0)) } := Keep.put hk (by omega) _
     generalize ({ st' with box := st'.box.put idS (.cells ((stC l.length (JT (l.take i) ++ f.kids.take (j + 1))).map (V.int .i64)) 3 true (some 0)) } : St) = st6 at hst hSB3 hk3
     generalize (((JT (l.take i) ++ f.kids.take j).count (m : Int) : Nat) : Int) = cn at hld3 wc hst
     repeat refine Does.seq ?_
     refine Does.region ?_
     simp [h3, h7, i3, hld3, Jz, wc, QN, hst]
     repeat refine Does.seq ?_
     refine Does.region ?_
     simp [h34, Jz, wj]
     exact ⟨j + 1, by omega, hk3, ⟨by simp [hds], by simp [hg], by simp [h0], by simp [h3], by simp [h21], by simp [h22], by simp [h23]⟩, by simp [h4], by simp [h32], by simp [h33], by simp, hSB3, by omega, hknext hKB⟩
end Go.Vm
namespace Go.Vm
open Go Go.Proofs Go.Pa
attribute [local simp] Oks Qn Jh Jn vop Ju JG ev evs toV andThen inBlock Jm Fr.dsTo Fr.glTo Fr.toNone Jj Jk Jl Qj Jc JL Jv V.undef J5 QA QO
def QQ (n : Int) (m : Nat) (ks : List Int) : List Nat := (ks.filter fun k => decide (k = n)).map fun _ => m
def Jif (l : List Fw) (m : Nat) : List Int := match l[m]? with
 | some f => f.kids
 | none => []
def Jbb (l : List Fw) (n : Int) (i : Nat) : List Nat := (List.range i).flatMap fun m => QQ n m (Jif l m)
def occ (l : List Fw) (n : Int) : List Nat := Jbb l n l.length
def JiY : List Nat → Int
 | [i] => (i : Int)
 | _ => -1
def Jab (l : List Fw) (n : Int) : Int := JiY (occ l n)
def Jd4 : List Nat → Int
 | [] => -1
 | i :: _ => (i : Int)
theorem Jgh (n : Int) (m : Nat) (a b : List Int) : QQ n m (a ++ b) = QQ n m a ++ QQ n m b := by simp [QQ]
theorem Jgi {l : List Fw} {n : Int} {i : Nat} (hi : i < l.length) : Jbb l n (i + 1) = Jbb l n i ++ QQ n i l[i].kids := by
 unfold Jbb
 rw [List.range_succ, List.flatMap_append]
 simp [Jif, hi]
theorem JiZ (l : List Fw) (n : Int) : ∀ (d i : Nat), i + d = l.length → ∃ R, occ l n = Jbb l n i ++ R
 | 0, i, h => ⟨[], by unfold occ; rw [← h]; simp⟩
 | d + 1, i, h => by
  obtain ⟨R, hR⟩ := JiZ l n d (i + 1) (by omega)
  rw [Jgi (by omega)] at hR
  exact ⟨_, by rw [hR, List.append_assoc]⟩
theorem Jo7 {P R : List Nat} {i : Nat} (h : P ≠ []) : JiY (P ++ i :: R) = -1 := by
 cases P with
 | nil => exact absurd rfl h
 | cons a p => cases p <;> rfl
theorem JmL {P : List Nat} (h : P.length ≤ 1) : JiY P = Jd4 P := by
 match P, h with
 | [], _ => rfl
 | [a], _ => rfl
def AbQ (st : St) (A : Int) (e : AE) (fr : Fr) (st' : St) : Prop := JbN st st' ∧ fr.ds = [] ∧ ((e = AE.ret ∧ Fr.at fr 4 = .int .i64 (-1) ∧ A = -1) ∨ (e = AE.normal ∧ Fr.at fr 5 = .int .i64 A))
def AbI (gl : Gl) (x : V) (n : Int) (i : Nat) (P : List Nat) (fr : Fr) : Prop := fr.ds = [] ∧ fr.gl = gl ∧ Fr.at fr 0 = x ∧ Fr.at fr 1 = .int .i64 n ∧ Fr.at fr 6 = .int .i64 (i : Int) ∧ Fr.at fr 5 = .int .i64 (Jd4 P) ∧ P.length ≤ 1
def AbK (gl : Gl) (x : V) (n : Int) (i : Nat) (st : St) (P : List Nat) (A : Int) (e : AE) (fr : Fr) (st' : St) : Prop := JbN st st' ∧ ((e = AE.ret ∧ fr.ds = [] ∧ Fr.at fr 4 = .int .i64 (-1) ∧ A = -1) ∨ (e = AE.normal ∧ AbI gl x n i P fr))
variable [Memo] [NY]
set_option maxHeartbeats 1000000 in
set_option maxRecDepth 100000 in
theorem Ji0 (gl : Gl) (st : St) (x : V) (l : List Fw) (n : Int) (hx : Row Fw.cells x l) (hok : ∀ f ∈ l, f.ok) (hs : ∀ f ∈ l, f.small) (hl : l.length ≤ 60) :
  ∃ v st', W Tryz.prog (.call gl 61 [x, .int .i64 n]) st = .call (.val v st') ∧ v = .int .i64 (Jab l n) ∧ JbN st st' := by
 have lx := hx.len Tryz.underlying22
 refine Jat (NY.no _ rfl rfl rfl _ _) Tryz.func61 rfl (by kernel_rfl) ?_
 repeat refine Does.seq ?_
 refine Does.region ?_
 simp
 repeat refine Does.seq ?_
 refine Does.region ?_
 simp
 repeat refine Does.seq ?_
 refine Does.region ?_
 simp
 repeat refine Does.seq ?_
 generalize hA : Jab l n = A
 refine Does.mono (Q := AbQ st A) ?loop ?tail
 case tail => as_aux_lemma =>
  rintro e fr' st' ⟨hst', hds, ⟨rfl, h4, hc⟩ | ⟨rfl, h5⟩⟩
  ·simp only [andThen]
   rw [show st' = st from hst']
   simp [hds, h4, hc]
   exact rfl
  ·simp only [andThen]
   rw [show st' = st from hst']
   repeat refine Does.seq ?_
   refine Does.region ?_
   simp [h5]
   refine Does.ret ?_
   simp [hds]
   exact rfl
 case loop => as_aux_lemma =>
  refine Does.block (Does.up l.length (fun i fr st' => JbN st st' ∧ AbI gl x n i (Jbb l n i) fr ∧ i ≤ l.length) 0 ?init ?J4 ?step)
  case init => exact ⟨rfl, ⟨by simp, by simp, by simp, by simp, by simp, by simp [Jbb, Jd4], by simp [Jbb]⟩, Nat.zero_le _⟩
  case J4 => exact fun i fr st' h => h.2.2
  case step =>
   rintro i fr st' ⟨hst', ⟨hds, hg, h0, h1, h6, h5, hP⟩, hi⟩
   rw [show st' = st from hst']
   clear hst'
   have elen : ∀ kk, Jd Tryz.prog kk .lss 3 (.int .i64 (i : Int)) (.int .i64 (l.length : Int)) = some (.bool (decide (i < l.length))) := fun kk => JaZ rfl
   repeat refine Does.seq ?_
   refine Does.region ?_
   by_cases hlt : i < l.length
   rotate_left
   ·rw [decide_eq_false hlt] at elen
    simp [h0, h6, lx, elen]
    repeat refine Does.seq ?_
    refine Does.condF (by simp) ?_
    refine Does.exit ?_
    simp only [inBlock, if_true, andThen]
    have : i = l.length := by omega
    subst this
    exact ⟨rfl, by simp [hds], .inr ⟨rfl, by simp [h5, ← hA, Jab, occ, JmL hP]⟩⟩
   rw [decide_eq_true hlt] at elen
   obtain ⟨r, g1⟩ := hx.get (z := 6) (fun f _ => f.len6) Tryz.underlying22 z38 hlt
   have i1 := g1 .i64
   have hfok := hok _ (List.getElem_mem hlt)
   have hfs := hs _ (List.getElem_mem hlt)
   have hstep := Jgi (n := n) hlt
   obtain ⟨R, hR⟩ := JiZ l n (l.length - (i + 1)) (i + 1) (by omega)
   rw [hstep] at hR
   have lk := hfok.kids.len Tryz.underlying45
   have q3 := fc3 l[i] r
   have m3 := fl3 l[i] r st
   generalize l[i] = f at i1 hfok hfs hstep hR lk q3 m3
   generalize (f.cells ++ r).drop 3 = c3 at q3 m3
   generalize f.cells ++ r = c0 at i1 q3
   have w1 : IntKind.i64.wrap ((i : Int) + 1) = (i : Int) + 1 := Jo (by omega) (by omega)
   simp [h0, h6, lx, elen]
   repeat refine Does.seq ?_
   refine Does.condT (by simp) ?_
   refine Does.skip ?_
   simp
   repeat refine Does.seq ?_
   refine Does.block ?_
   repeat refine Does.seq ?_
   refine Does.region ?_
   simp
   refine Does.mono (Q := AbK gl x n i st (Jbb l n (i + 1)) A) ?inner ?next
   case next => as_aux_lemma =>
    clear hds hg h0 h1 h5 h6
    rintro e fr st' ⟨hst', ⟨rfl, hds, h4, hc⟩ | ⟨rfl, ⟨hds, hg, h0, h1, h6, h5, hP⟩⟩⟩
    ·simp only [andThen, inBlock]
     exact ⟨hst', hds, .inl ⟨rfl, h4, hc⟩⟩
    ·simp only [andThen, inBlock]
     rw [show st' = st from hst']
     refine Does.region ?_
     simp [h6, Jz, w1]
     exact ⟨i + 1, by omega, rfl, ⟨by simp [hds], by simp [hg], by simp [h0], by simp [h1], by simp, by simp [h5], hP⟩, by omega⟩
   case inner => as_aux_lemma =>
    refine Does.block (Does.up f.kids.length (fun j fr st' => JbN st st' ∧ AbI gl x n i (Jbb l n i ++ QQ n i (f.kids.take j)) fr ∧ Fr.at fr 7 = .int .i64 (j : Int) ∧ j ≤ f.kids.length) 0 ?init ?J4 ?step)
    case init => exact ⟨rfl, ⟨by simp [hds], by simp [hg], by simp [h0], by simp [h1], by simp [h6], by simp [h5, QQ], by simpa [QQ] using hP⟩, by simp, Nat.zero_le _⟩
    case J4 => exact fun i fr st' h => h.2.2.2
    case step =>
     clear hds hg h0 h1 h5 h6 hP
     rintro j fr st' ⟨hst', ⟨hds, hg, h0, h1, h6, h5, hP⟩, h7, hj⟩
     rw [show st' = st from hst']
     clear hst'
     have ej : ∀ kk, Jd Tryz.prog kk .lss 3 (.int .i64 (j : Int)) (.int .i64 (f.kids.length : Int)) = some (.bool (decide (j < f.kids.length))) := fun kk => JaZ rfl
     repeat refine Does.seq ?_
     refine Does.region ?_
     by_cases hjt : j < f.kids.length
     rotate_left
     ·rw [decide_eq_false hjt] at ej
      simp [h0, h6, h7, i1, q3, m3, lk, ej]
      repeat refine Does.seq ?_
      refine Does.condF (by simp) ?_
      refine Does.exit ?_
      simp only [inBlock, if_true, andThen]
      rw [List.take_of_length_le (l := f.kids) (by omega), ← hstep] at h5 hP
      exact ⟨rfl, .inr ⟨rfl, ⟨by simp [hds], by simp [hg], by simp [h0], by simp [h1], by simp [h6], by simp [h5], hP⟩⟩⟩
     rw [decide_eq_true hjt] at ej
     obtain ⟨r', g2⟩ := hfok.kids.get (z := 1) (fun _ _ => rfl) Tryz.underlying45 z3 hjt
     have i2 := g2 .i64
     have hld2 := JmI f.kids[j] r' st
     have wj : IntKind.i64.wrap ((j : Int) + 1) = (j : Int) + 1 := Jo (by omega) (by have := hfs.kids; omega)
     have htj : QQ n i (f.kids.take (j + 1)) = QQ n i (f.kids.take j) ++ QQ n i [f.kids[j]] := by
      rw [← Jgh, List.take_add_one, List.getElem?_eq_getElem hjt]; rfl
     have hsplit : f.kids = f.kids.take j ++ f.kids[j] :: f.kids.drop (j + 1) := by
      rw [← List.drop_eq_getElem_cons hjt, List.take_append_drop]
     have eq : ∀ kk, Jd Tryz.prog kk .eql 3 (.int .i64 f.kids[j]) (.int .i64 n) = some (.bool (decide (f.kids[j] = n))) := fun kk => Qc
     generalize iC f.kids[j] ++ r' = kr at i2 hld2
     generalize f.kids[j] = k at hld2 htj eq hsplit
     simp [h0, h6, h7, i1, q3, m3, lk, ej]
     repeat refine Does.seq ?_
     refine Does.condT (by simp) ?_
     refine Does.skip ?_
     simp
     repeat refine Does.seq ?_
     refine Does.block ?_
     repeat refine Does.seq ?_
     refine Does.region ?_
     by_cases hkn : k = n
     rotate_left
     ·rw [decide_eq_false hkn] at eq
      have h0t : QQ n i [k] = [] := by simp [QQ, hkn]
      rw [h0t, List.append_nil] at htj
      simp [h0, h1, h6, h7, i1, q3, m3, i2, hld2, eq]
      repeat refine Does.seq ?_
      refine Does.condF (by simp) ?_
      refine Does.skip ?_
      simp only [andThen, inBlock]
      refine Does.region ?_
      simp [h7, Jz, wj]
      exact ⟨j + 1, by omega, rfl, ⟨by simp [hds], by simp [hg], by simp [h0], by simp [h1], by simp [h6], by simp [h5, htj], by rw [htj]; exact hP⟩, by simp, by omega⟩
     rw [decide_eq_true hkn] at eq
     have h1t : QQ n i [k] = [i] := by simp [QQ, hkn]
     rw [h1t] at htj
     simp [h0, h1, h6, h7, i1, q3, m3, i2, hld2, eq]
     repeat refine Does.seq ?_
     refine Does.condT (by simp) ?_
     have hge : ∀ kk, Jd Tryz.prog kk .geq 3 (.int .i64 (Jd4 (Jbb l n i ++ QQ n i (f.kids.take j)))) (.int .i64 0) = some (.bool (decide (0 ≤ Jd4 (Jbb l n i ++ QQ n i (f.kids.take j))))) := fun kk => JP
     have hAA : Jbb l n i ++ QQ n i (f.kids.take j) ≠ [] → A = -1 := fun hne => by
      rw [← hA, Jab, hR]
      have : QQ n i f.kids = QQ n i (f.kids.take j) ++ i :: QQ n i (f.kids.drop (j + 1)) := by
       conv => lhs; rw [hsplit]
       rw [Jgh, show k :: f.kids.drop (j + 1) = [k] ++ f.kids.drop (j + 1) from rfl, Jgh, h1t]
       rfl
      rw [this, ← List.append_assoc, List.append_assoc, List.cons_append]
      exact Jo7 hne
     have hPP : Jbb l n i ++ QQ n i (f.kids.take (j + 1)) = (Jbb l n i ++ QQ n i (f.kids.take j)) ++ [i] := by rw [htj, List.append_assoc]
     generalize Jbb l n i ++ QQ n i (f.kids.take j) = P at hPP hAA hge hP h5
     repeat refine Does.seq ?_
     refine Does.region ?_
     cases P with
     | cons a p =>
      have hA1 := hAA (by simp)
      rw [show decide (0 ≤ Jd4 (a :: p)) = true from by simp [Jd4]] at hge
      simp [h5, hge]
      repeat refine Does.seq ?_
      refine Does.condT (by simp) ?_
      repeat refine Does.seq ?_
      refine Does.region ?_
      simp
      refine Does.ret ?_
      simp only [andThen, inBlock]
      exact ⟨rfl, .inl ⟨rfl, by simp [hds], by simp, hA1⟩⟩
     | nil =>
      rw [show decide (0 ≤ Jd4 []) = false from by simp [Jd4]] at hge
      simp [h5, hge]
      repeat refine Does.seq ?_
      refine Does.condF (by simp) ?_
      refine Does.skip ?_
      simp
      refine Does.region ?_
      simp [h6]
      refine Does.region ?_
      simp [h7, Jz, wj]
      exact ⟨j + 1, by omega, rfl, ⟨by simp [hds], by simp [hg], by simp [h0], by simp [h1], by simp [h6], by rw [hPP]; simp [Jd4], by rw [hPP]; simp⟩, by simp, by omega⟩
end Go.Vm
namespace Go.Vm
open Go Go.Proofs Go.Pa
attribute [local simp] Oks Qn Jh Jn vop Ju JG ev evs toV andThen inBlock Jm Fr.dsTo Fr.glTo Fr.toNone Jj Jk Jl Qj Jc JL Jv V.undef J5 QA QO
theorem Jk2 : ∀ l : List S, Jad (l.flatMap sC) = 2 * l.length + 1
 | [] => rfl
 | a :: l => by rw [List.flatMap_cons, show sC a ++ l.flatMap sC = .str a :: l.flatMap sC from rfl, Jad, Jk2 l]; simp only [vsz, List.length_cons]; omega
theorem JaG {x : V} {l : List S} (h : Row sC x l) : vsz x ≤ 2 * l.length + 2 := by
 cases h with
 | nils => exact Nat.le_of_ble_eq_true rfl
 | sl l ex => show Jad (l.flatMap sC) + 1 ≤ _; rw [Jk2]; omega
def Jct (l : List Fw) (i : Nat) : Bool := decide (0 ≤ Jab l (i : Int)) && decide (Jab l (i : Int) < (i : Int))
def Jig (l : List Fw) : Bool := Jap l && l.all Ja8 && decide ((JT l).length + 1 = l.length) && ((List.range l.length).drop 1).all (Jct l)
def JoV (l : List Fw) (i : Nat) : Prop := ∀ j (h : j < l.length), j < i → Ja8 l[j] = true
def Jk3 (l : List Fw) (i : Nat) : Prop := ∀ j, 1 ≤ j → j < i → j < l.length → Jct l j = true
def RmQ (gl : Gl) (x : V) (st : St) (c : Int) (A : Bool) (e : AE) (fr : Fr) (st' : St) : Prop :=
 Keep st st' ∧ fr.ds = [] ∧ ((e = AE.ret ∧ Fr.at fr 2 = .bool false ∧ A = false) ∨ (e = AE.normal ∧ fr.gl = gl ∧ Fr.at fr 0 = x ∧ Fr.at fr 3 = .int .i64 c ∧ A = true))
def RnQ (st : St) (A : Bool) (e : AE) (fr : Fr) (st' : St) : Prop :=
 Keep st st' ∧ fr.ds = [] ∧ ((e = AE.ret ∧ Fr.at fr 2 = .bool false ∧ A = false) ∨ (e = AE.normal ∧ A = true))
variable [Memo] [NY]
set_option maxHeartbeats 1000000 in
set_option maxRecDepth 100000 in
theorem Jgj (gl : Gl) (st : St) (x : V) (l : List Fw) (hx : Row Fw.cells x l) (hok : ∀ f ∈ l, f.ok) (hs : ∀ f ∈ l, f.small) (hl : l.length ≤ 60) :
  ∃ v st', W Tryz.prog (.call gl 35 [x]) st = .call (.val v st') ∧ v = .bool (Jig l) ∧ Keep st st' := by
 have hk38 : JR Tryz.prog 59 = true := by kernel_rfl
 have hk39 : JR Tryz.prog 60 = true := by kernel_rfl
 have hk35 : JR Tryz.prog 61 = true := by kernel_rfl
 have lx := hx.len Tryz.underlying22
 refine Jat (NY.no _ rfl rfl rfl _ _) Tryz.func35 rfl (by kernel_rfl) ?_
 repeat refine Does.seq ?_
 refine Does.region ?_
 simp
 repeat refine Does.seq ?_
 have e0 : ∀ kk, Jd Tryz.prog kk .eql 3 (.int .i64 (l.length : Int)) (.int .i64 0) = some (.bool (decide (l.length = 0))) := fun kk => JbE rfl
 refine Does.mono (Q := fun e fr st' => e = AE.normal ∧ Keep st st' ∧ fr.ds = [] ∧ fr.gl = gl ∧ Fr.at fr 0 = x ∧ Fr.at fr 16 = .bool (!Jap l)) ?r1 ?t1
 case r1 => as_aux_lemma =>
  refine Does.region ?_
  cases l with
  | nil =>
   have lx' : Q2 Tryz.prog 22 x = some (.int .i64 0) := lx
   have e0' : ∀ kk, Jd Tryz.prog kk .eql 3 (.int .i64 0) (.int .i64 0) = some (.bool true) := e0
   simp [lx', e0', Jap]
   exact .refl _
  | cons f r =>
   obtain ⟨rr, g1⟩ := hx.get (z := 6) (fun f _ => f.len6) Tryz.underlying22 z38 (show 0 < (f :: r).length by simp)
   have i1 : Je Tryz.prog 22 x (.int .i64 0) = some (.cp (f.cells ++ rr)) := g1 .i64
   have hld := Jge f rr st
   obtain ⟨v, st2, hc, rfl, hk⟩ := JpP gl st f (hok f (by simp))
   have hc := JZ hc
   rw [decide_eq_false (by simp)] at e0
   rw [show Jap (f :: r) = Jbn f from rfl]
   generalize Jbn f = d at hc
   generalize f.cells ++ rr = wr at i1 hld
   generalize f.cells = cs at hld hc
   generalize ((f :: r).length : Int) = ln at lx e0
   simp [lx, e0, i1, hld, Jg hk38, hc]
   exact hk
 case t1 => as_aux_lemma =>
 rintro e fr st1 ⟨rfl, hk1, hds, hg, h0, h16⟩
 simp only [andThen]
 repeat refine Does.seq ?_
 unfold Jig
 generalize hSD : ((List.range l.length).drop 1).all (Jct l) = SD
 cases hH : Jap l with
 | false =>
  rw [hH] at h16
  refine Does.condT (by simp [h16]) ?_
  repeat refine Does.seq ?_
  refine Does.region ?_
  simp
  refine Does.ret ?_
  simp [hds]
  exact hk1
 | true =>
 rw [hH] at h16
 have hl1 : 1 ≤ l.length := by
  cases l with
  | nil => simp [Jap] at hH
  | cons f r => simp
 refine Does.condF (by simp [h16]) ?_
 refine Does.skip ?_
 simp only [andThen, Bool.true_and]
 generalize hA : l.all Ja8 = A
 repeat refine Does.seq ?_
 refine Does.region ?_
 simp
 repeat refine Does.seq ?_
 refine Does.region ?_
 simp
 repeat refine Does.seq ?_
 refine Does.mono (Q := RmQ gl x st1 ((JT l).length : Int) A) ?loop ?tail
 case loop => as_aux_lemma =>
  refine Does.block (Does.up l.length (fun i fr st' => Keep st1 st' ∧ fr.ds = [] ∧ fr.gl = gl ∧ Fr.at fr 0 = x ∧ Fr.at fr 3 = .int .i64 ((JT (l.take i)).length : Int) ∧ Fr.at fr 4 = .int .i64 (i : Int) ∧ (JT (l.take i)).length ≤ i * 60 ∧ i ≤ l.length ∧ JoV l i) 0 ?init ?J4 ?step)
  case init => exact ⟨.refl st1, by simp [hds], by simp [hg], by simp [h0], by simp [JT], by simp, by simp [JT], Nat.zero_le _, fun j _ h => absurd h (Nat.not_lt_zero j)⟩
  case J4 => exact fun i fr st' h => h.2.2.2.2.2.2.2.1
  case step =>
   clear hds hg h0 h16
   rintro i fr st' ⟨hk, hds, hg, h0, h3, h4, hKl, hi, hall⟩
   have elen : ∀ kk, Jd Tryz.prog kk .lss 3 (.int .i64 (i : Int)) (.int .i64 (l.length : Int)) = some (.bool (decide (i < l.length))) := fun kk => JaZ rfl
   repeat refine Does.seq ?_
   refine Does.region ?_
   by_cases hlt : i < l.length
   rotate_left
   ·rw [decide_eq_false hlt] at elen
    simp [h0, h4, lx, elen]
    repeat refine Does.seq ?_
    refine Does.condF (by simp) ?_
    refine Does.exit ?_
    simp only [inBlock, if_true, andThen]
    rw [List.take_of_length_le (by omega)] at h3
    refine ⟨hk, by simp [hds], .inr ⟨rfl, by simp [hg], by simp [h0], by simp [h3], ?_⟩⟩
    rw [← hA, List.all_eq_true]
    intro f hf
    obtain ⟨j, hj, rfl⟩ := List.getElem_of_mem hf
    exact hall j hj (by omega)
   rw [decide_eq_true hlt] at elen
   obtain ⟨r, g1⟩ := hx.get (z := 6) (fun f _ => f.len6) Tryz.underlying22 z38 hlt
   have i1 := g1 .i64
   have hm := List.getElem_mem hlt
   have hfok := hok _ hm
   have hfs := hs _ hm
   have hld := Jge l[i] r st'
   obtain ⟨v, st2, hc, rfl, hk2⟩ := Jn7 gl st' l[i] hfok (by have := hfs.names; omega) (by have := JaG hfok.names; have := hfs.names; omega)
   have hc := JZ hc
   have hone : Ja8 l[i] = true → JoV l (i + 1) := fun hb j hj hji => by
    by_cases he : j = i
    ·subst he; exact hb
    ·exact hall j hj (by omega)
   have hno : Ja8 l[i] = false → A = false := fun hb => by
    rw [← hA, Bool.eq_false_iff]
    intro hc
    rw [List.all_eq_true] at hc
    have := hc _ hm
    rw [hb] at this; cases this
   have htk : (JT (l.take (i + 1))).length = (JT (l.take i)).length + l[i].kids.length := by
    unfold JT
    rw [List.take_add_one, List.getElem?_eq_getElem hlt, List.flatMap_append]
    simp
   have lk := hfok.kids.len Tryz.underlying45
   have q3 := fc3 l[i] r
   have m3 := fl3 l[i] r st2
   generalize l[i] = f at i1 hld hc hone hno htk lk q3 m3 hfs
   generalize Ja8 f = o at hc hone hno
   generalize (f.cells ++ r).drop 3 = c3 at q3 m3
   generalize f.cells ++ r = c0 at i1 q3 hld
   generalize f.cells = cs at hld hc
   have w1 : IntKind.i64.wrap ((i : Int) + 1) = (i : Int) + 1 := Jo (by omega) (by omega)
   have wk : IntKind.i64.wrap (((JT (l.take i)).length : Int) + (f.kids.length : Int)) = ((JT (l.take (i + 1))).length : Int) := by
    have := hfs.kids
    rw [htk, Jo (by omega) (by omega)]; omega
   simp [h0, h4, lx, elen]
   repeat refine Does.seq ?_
   refine Does.condT (by simp) ?_
   refine Does.skip ?_
   simp
   repeat refine Does.seq ?_
   refine Does.block ?_
   repeat refine Does.seq ?_
   refine Does.region ?_
   simp [h0, h4, i1, hld, hg, Jg hk39, hc]
   repeat refine Does.seq ?_
   cases o with
   | false =>
    refine Does.condT (by simp) ?_
    repeat refine Does.seq ?_
    refine Does.region ?_
    simp
    refine Does.ret ?_
    simp only [andThen, inBlock]
    exact ⟨hk.trans hk2, by simp [hds], .inl ⟨rfl, by simp, hno rfl⟩⟩
   | true =>
    refine Does.condF (by simp) ?_
    refine Does.skip ?_
    simp
    refine Does.region ?_
    simp [h0, h3, h4, i1, q3, m3, lk, Jz, wk]
    refine Does.region ?_
    simp [h4, Jz, w1]
    refine ⟨i + 1, by omega, hk.trans hk2, by simp [hds], by simp [hg], by simp [h0], by simp, by simp, ?_, by omega, hone rfl⟩
    rw [htk]
    have := hfs.kids
    omega
 case tail => as_aux_lemma =>
  clear hds hg h0 h16
  rintro e fr st2 ⟨hk, hds, ⟨rfl, h2, rfl⟩ | ⟨rfl, hg, h0, h3, rfl⟩⟩
  ·simp only [andThen]
   simp [hds, h2]
   exact hk1.trans hk
  simp only [andThen, Bool.true_and]
  have hk12 := hk1.trans hk
  have w1 : IntKind.i64.wrap ((l.length : Int) - 1) = ((l.length - 1 : Nat) : Int) := by rw [Jo (by omega) (by omega)]; omega
  have ene : ∀ kk, Jd Tryz.prog kk .neq 3 (.int .i64 ((JT l).length : Int)) (.int .i64 ((l.length - 1 : Nat) : Int)) = some (.bool (!decide ((JT l).length + 1 = l.length))) := fun kk => by
   have := Jdh (P := Tryz.prog) (kk := kk) (T := 3) (q := .i64) (c := (JT l).length) (m := l.length - 1) (k := ((l.length - 1 : Nat) : Int)) rfl
   rw [this]
   congr 2
   have : ((JT l).length = l.length - 1) ↔ ((JT l).length + 1 = l.length) := by omega
   simp only [this]
  repeat refine Does.seq ?_
  refine Does.region ?_
  generalize decide ((JT l).length + 1 = l.length) = E at ene
  cases E with
  | false =>
   simp [h0, h3, lx, JM, w1, ene]
   repeat refine Does.seq ?_
   refine Does.condT (by simp) ?_
   repeat refine Does.seq ?_
   refine Does.region ?_
   simp
   refine Does.ret ?_
   simp [hds]
   exact hk12
  | true =>
  simp [h0, h3, lx, JM, w1, ene]
  repeat refine Does.seq ?_
  refine Does.condF (by simp) ?_
  refine Does.skip ?_
  simp
  repeat refine Does.seq ?_
  refine Does.region ?_
  simp
  repeat refine Does.seq ?_
  refine Does.mono (Q := RnQ st2 SD) ?loop2 ?tail2
  case tail2 => as_aux_lemma =>
   clear hds hg h0 h3
   rintro e fr st3 ⟨hk, hds, ⟨rfl, h2, rfl⟩ | ⟨rfl, rfl⟩⟩
   ·simp only [andThen]
    simp [hds, h2]
    exact hk12.trans hk
   ·simp only [andThen]
    repeat refine Does.seq ?_
    refine Does.region ?_
    simp
    refine Does.ret ?_
    simp [hds]
    exact hk12.trans hk
  case loop2 => as_aux_lemma =>
   refine Does.block (Does.up l.length (fun i fr st' => JbN st2 st' ∧ fr.ds = [] ∧ fr.gl = gl ∧ Fr.at fr 0 = x ∧ Fr.at fr 5 = .int .i64 (i : Int) ∧ i ≤ l.length ∧ 1 ≤ i ∧ Jk3 l i) 1 ?init ?J4 ?step)
   case init => exact ⟨rfl, by simp [hds], by simp [hg], by simp [h0], by simp, hl1, Nat.le_refl _, fun j h1 h2 _ => by omega⟩
   case J4 => exact fun i fr st' h => h.2.2.2.2.2.1
   case step =>
    clear hds hg h0 h3
    rintro i fr st' ⟨hst', hds, hg, h0, h5, hi, hi1, hall⟩
    rw [show st' = st2 from hst']
    clear hst'
    have elen : ∀ kk, Jd Tryz.prog kk .lss 3 (.int .i64 (i : Int)) (.int .i64 (l.length : Int)) = some (.bool (decide (i < l.length))) := fun kk => JaZ rfl
    repeat refine Does.seq ?_
    refine Does.region ?_
    by_cases hlt : i < l.length
    rotate_left
    ·rw [decide_eq_false hlt] at elen
     simp [h0, h5, lx, elen]
     repeat refine Does.seq ?_
     refine Does.condF (by simp) ?_
     refine Does.exit ?_
     simp only [inBlock, if_true, andThen]
     refine ⟨.refl _, by simp [hds], .inr ⟨rfl, ?_⟩⟩
     rw [← hSD, List.all_eq_true]
     intro j hj
     obtain ⟨m, hm, rfl⟩ := List.getElem_of_mem hj
     simp only [List.length_drop, List.length_range] at hm
     simp only [List.getElem_drop, List.getElem_range]
     exact hall (1 + m) (by omega) (by omega) (by omega)
    rw [decide_eq_true hlt] at elen
    obtain ⟨v, st3, hc, rfl, hst3⟩ := Ji0 gl st2 x l (i : Int) hx hok hs hl
    have hc := JZ hc
    rw [show st3 = st2 from hst3] at hc
    have hnext : Jct l i = true → Jk3 l (i + 1) := fun hb j h1 h2 h3 => by
     by_cases he : j = i
     ·subst he; exact hb
     ·exact hall j h1 (by omega) h3
    have hno : Jct l i = false → SD = false := fun hb => by
     rw [← hSD, Bool.eq_false_iff]
     intro hc
     rw [List.all_eq_true] at hc
     have hmem : i ∈ (List.range l.length).drop 1 := by
      rw [List.mem_iff_getElem]
      exact ⟨i - 1, by simp; omega, by simp; omega⟩
     have := hc i hmem
     rw [hb] at this; cases this
    rw [show Jct l i = (decide (0 ≤ Jab l (i : Int)) && decide (Jab l (i : Int) < (i : Int))) from rfl] at hnext hno
    have el0 : ∀ kk, Jd Tryz.prog kk .lss 3 (.int .i64 (Jab l (i : Int))) (.int .i64 0) = some (.bool (!decide (0 ≤ Jab l (i : Int)))) := fun kk => by
     rw [J1]; congr 2
     by_cases h : 0 ≤ Jab l (i : Int)
     ·rw [decide_eq_true h, decide_eq_false (by omega)]; rfl
     ·rw [decide_eq_false h, decide_eq_true (by omega)]; rfl
    have egi : ∀ kk, Jd Tryz.prog kk .geq 3 (.int .i64 (Jab l (i : Int))) (.int .i64 (i : Int)) = some (.bool (!decide (Jab l (i : Int) < (i : Int)))) := fun kk => by
     rw [JP]; congr 2
     by_cases h : Jab l (i : Int) < (i : Int)
     ·rw [decide_eq_true h, decide_eq_false (by omega)]; rfl
     ·rw [decide_eq_false h, decide_eq_true (by omega)]; rfl
    have w1 : IntKind.i64.wrap ((i : Int) + 1) = (i : Int) + 1 := Jo (by omega) (by omega)
    generalize decide (0 ≤ Jab l (i : Int)) = d1 at el0 hnext hno
    generalize decide (Jab l (i : Int) < (i : Int)) = d2 at egi hnext hno
    generalize Jab l (i : Int) = ab at hc el0 egi
    simp [h0, h5, lx, elen]
    repeat refine Does.seq ?_
    refine Does.condT (by simp) ?_
    refine Does.skip ?_
    simp
    repeat refine Does.seq ?_
    refine Does.block ?_
    repeat refine Does.seq ?_
    refine Does.region ?_
    simp [h0, h5, hg, Jg hk35, hc]
    repeat refine Does.seq ?_
    refine Does.region ?_
    refine Oks.cont (Q := fun fr st'' => JbN st2 st'' ∧ fr.ds = [] ∧ fr.gl = gl ∧ Fr.at fr 0 = x ∧ Fr.at fr 5 = .int .i64 (i : Int) ∧ Fr.at fr 57 = .bool (!(d1 && d2))) ?r16 ?t16
    case r16 => as_aux_lemma =>
     cases d1 with
     | false =>
      simp [el0, hds, hg, h0, h5]
      exact rfl
     | true =>
      simp [el0, h5, egi, hds, hg, h0]
      exact rfl
    case t16 => as_aux_lemma =>
    clear hds hg h0 h5
    rintro fr st'' ⟨hst', hds, hg, h0, h5, h57⟩
    rw [show st'' = st2 from hst']
    clear hst'
    simp only [andThen]
    repeat refine Does.seq ?_
    generalize (d1 && d2) = d at h57 hnext hno
    cases d with
    | false =>
     refine Does.condT (by simp [h57]) ?_
     repeat refine Does.seq ?_
     refine Does.region ?_
     simp
     refine Does.ret ?_
     simp only [andThen, inBlock]
     exact ⟨.refl _, by simp [hds], .inl ⟨rfl, by simp, hno rfl⟩⟩
    | true =>
     refine Does.condF (by simp [h57]) ?_
     refine Does.skip ?_
     simp only [andThen, inBlock]
     refine Does.region ?_
     simp [h5, Jz, w1]
     exact ⟨i + 1, by omega, rfl, by simp [hds], by simp [hg], by simp [h0], by simp, by omega, by omega, hnext rfl⟩
end Go.Vm
