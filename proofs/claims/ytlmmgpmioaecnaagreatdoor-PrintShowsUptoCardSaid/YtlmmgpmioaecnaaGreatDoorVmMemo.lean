/- Calls whose answers are known: each is proved by a run of its own, in an empty state; a greater run then takes the answer. -/
import Derived.Test.YtlmmgpmioaecnaaGreatDoorVmFx
import Derived.Test.YtlmmgpmioaecnaaGreatDoorVmLaid
namespace Go.Vm
open Go Go.RowKit
def Jac (p : Bool) : Nat → V → Bool
 | 0, _ => false
 | d + 1, v =>
  match v with
  | .bool _ | .int _ _ | .str _ | .nilp | .nils | .nilf | .nili | .nilm => true
  | .sl _ cs _ => p && cs.all (Jac p d)
  | .cp cs => p && cs.all (Jac p d)
  | .agg cs => cs.all (Jac p d)
  | .tup cs => cs.all (Jac p d)
  | .fn _ a b => a.all (Jac p d) && b.all (Jac p d)
  | .iface _ x => Jac p d x
  | _ => false
theorem Rs.carry {p : Bool} {d : Nat} {g g' : Gh} (ih : ∀ v c, Jac p d v = true → R g v c → R g' v c) : ∀ {l : List V} {cs : List Value}, l.all (Jac p d) = true → Rs g l cs → Rs g' l cs := by
 intro l
 induction l with
 | nil => intro cs _ h; cases h; exact .nil
 | cons v vs ihl =>
  intro cs h hr
  cases hr with
  | cons _ c _ cs h1 h2 =>
   simp only [List.all_cons, Bool.and_eq_true] at h
   exact .cons _ _ _ _ (ih v c h.1 h1) (ihl h.2 h2)
theorem R.carry {p : Bool} {g g' : Gh} (hp : p = true → ∀ b o c, g.pub b o = some c → g'.pub b o = some c) : ∀ (d : Nat) (v : V) (c : Value), Jac p d v = true → R g v c → R g' v c
 | 0, v, c, h, _ => by simp [Jac] at h
 | d + 1, v, c, h, hr => by
  have ih := R.carry hp d
  cases hr with
  | bool b => exact .bool b
  | int k n => exact .int k n
  | str l => exact .str l
  | nilp => exact .nilp
  | nils => exact .nils
  | nilf => exact .nilf
  | nili => exact .nili
  | nilm => exact .nilm
  | sl n cells ex b o cap l hr hpb hc ht =>
   simp only [Jac, Bool.and_eq_true] at h
   exact .sl n cells ex b o cap l (Rs.carry ih h.2 hr) (fun i c hi => hp h.1 _ _ _ (hpb i c hi)) hc ht
  | sl0 ex a cap he => exact .sl0 ex a cap he
  | ms => simp [Jac] at h
  | cp cells b o l hr hpb =>
   simp only [Jac, Bool.and_eq_true] at h
   exact .cp cells b o l (Rs.carry ih h.2 hr) fun i c hi => hp h.1 _ _ _ (hpb i c hi)
  | ptr => simp [Jac] at h
  | agg cells l hr => exact .agg cells l (Rs.carry ih (by simpa [Jac] using h) hr)
  | tup cells l hr => exact .tup cells l (Rs.carry ih (by simpa [Jac] using h) hr)
  | fn f a b la lb ha hb =>
   simp only [Jac, Bool.and_eq_true] at h
   exact .fn f a b la lb (Rs.carry ih h.1 ha) (Rs.carry ih h.2 hb)
  | yld => simp [Jac] at h
  | mapp => simp [Jac] at h
  | iface t x y hx => exact .iface t x y (ih x y (by simpa [Jac] using h) hx)
def Tr.allB {α : Type} (f : α → Bool) : Tr α → Bool
 | .nil => true
 | .node l v r => l.allB f && (match v with | some x => f x | none => true) && r.allB f
theorem Tr.allB_get {α : Type} (f : α → Bool) : ∀ (t : Tr α) (n : Nat) (x : α), t.allB f = true → t.get n = some x → f x = true
 | .nil, n, x, _, h => by simp [Tr.get] at h
 | .node l v r, n, x, ha, h => by
  simp only [Tr.allB, Bool.and_eq_true] at ha
  obtain ⟨⟨h1, h2⟩, h3⟩ := ha
  simp only [Tr.get] at h
  split at h
  ·subst h; exact h2
  ·split at h
   ·exact Tr.allB_get f l _ x h1 h
   ·exact Tr.allB_get f r _ x h3 h
structure Ent where
 f : Nat
 args : List V
 v : V
def EntOk (P : Program) (gl : Gl) (e : Ent) : Prop :=
 ∀ (base : Nat) (st : St) (g : Gh) (w : World) (cargs : List Value), GlV g gl → Inv base g st.abs w → Rs g e.args cargs →
  Calls P e.f ⟨cargs⟩ w fun en w' => ∃ c, en = .returned c ∧ R g e.v c ∧ Inv base g st.abs w' ∧ Ext base g st.abs w g st.abs w'
def Jjh (a b : V) : Bool :=
 match a with
 | .str x => (match b with
  | .str y => match Nat.beq x.n y.n with
   | true => Nat.beq x.x y.x
   | false => false
  | _ => false)
 | .int k (.ofNat x) => (match b with
  | .int j (.ofNat y) => match Nat.beq x y with
   | true => Nat.beq (kc k) (kc j)
   | false => false
  | _ => false)
 | a => veq 60 a b
def JeM : List V → List V → Bool
 | [], l => (match l with | [] => true | _ => false)
 | a :: x, l => (match l with
  | b :: y => match JeM x y with
   | true => Jjh a b
   | false => false
  | [] => false)
theorem Jmt (x y : S) (h : Jjh (.str x) (.str y) = true) : x = y := by
 obtain ⟨n, m⟩ := x
 obtain ⟨n', m'⟩ := y
 simp only [Jjh] at h
 split at h
 ·rename_i hn
  rw [Nat.eq_of_beq_eq_true hn, Nat.eq_of_beq_eq_true h]
 ·cases h
theorem Jmu (k j : IntKind) (x y : Nat) (h : Jjh (.int k (.ofNat x)) (.int j (.ofNat y)) = true) : k = j ∧ x = y := by
 simp only [Jjh] at h
 split at h
 ·rename_i hn
  exact ⟨Joq (Nat.eq_of_beq_eq_true h), Nat.eq_of_beq_eq_true hn⟩
 ·cases h
theorem JnG {a b : V} (h : Jjh a b = true) : a = b := by
 have h0 := h
 unfold Jjh at h
 split at h
 ·split at h
  ·rw [Jmt _ _ h0]
  ·cases h
 ·split at h
  ·obtain ⟨rfl, rfl⟩ := Jmu _ _ _ _ h0
   rfl
  ·cases h
 ·exact JdJ _ _ _ h
theorem JfU : ∀ {a b : List V}, JeM a b = true → a = b
 | [], [], _ => rfl
 | [], _ :: _, h => by simp [JeM] at h
 | _ :: _, [], h => by simp [JeM] at h
 | a :: x, b :: y, h => by
  simp only [JeM] at h
  split at h
  ·rename_i h1
   rw [JfU h1, JnG h]
  ·cases h
structure Rule where
 f : Nat
 run : List V → St → Option (V × St)
def JcA (P : Program) (gl : Gl) (e : Rule) : Prop :=
 ∀ (args : List V) (st : St) (v : V) (st' : St), e.run args st = some (v, st') → ∀ (base : Nat) (g : Gh) (w : World) (cargs : List Value), GlV g gl → Inv base g st.abs w → Rs g args cargs →
  Calls P e.f ⟨cargs⟩ w (CallPost base g st.abs w (.val v st'))
def Ent.rule (e : Ent) : Rule := ⟨e.f, fun args st => match JeM args e.args with
 | true => some (e.v, st)
 | false => none⟩
theorem EntOk.rule {P : Program} {gl : Gl} {e : Ent} (h : EntOk P gl e) : JcA P gl e.rule := by
 intro args st v st' hr base g w cargs hgl hi hrs
 simp only [Ent.rule] at hr
 split at hr
 ·rename_i ha
  simp only [Option.some.injEq, Prod.mk.injEq] at hr
  obtain ⟨rfl, rfl⟩ := hr
  have ha := JfU ha
  subst ha
  exact (h base st g w cargs hgl hi hrs).mono fun en w' ⟨c, h1, h2, h3, h4⟩ => ⟨g, c, h1, h2, h3, h4⟩
 ·cases hr
def mfF (f : Nat) : List Rule → Mf
 | [] => Jot
 | e :: r => match Nat.beq e.f f with
  | true => ⟨fun args st => match e.run args st with
   | some p => some p
   | none => (mfF f r).run args st⟩
  | false => mfF f r
abbrev JfV (gl : Gl) (L : List Rule) : Memo := ⟨fun f => mfF f L, fun g => g = gl⟩
theorem Jhg (f : Nat) (args : List V) (st : St) (p : V × St) : ∀ (L : List Rule), (mfF f L).run args st = some p → ∃ e ∈ L, e.f = f ∧ e.run args st = some p
 | [], h => by simp [mfF, Jot] at h
 | e :: r, h => by
  simp only [mfF] at h
  split at h
  ·rename_i hf
   simp only at h
   split at h
   ·rename_i q ha
    exact ⟨e, List.mem_cons_self .., Nat.eq_of_beq_eq_true hf, by rw [ha, h]⟩
   ·obtain ⟨e', h1, h2⟩ := Jhg f args st p r h
    exact ⟨e', List.mem_cons_of_mem _ h1, h2⟩
  ·obtain ⟨e', h1, h2⟩ := Jhg f args st p r h
   exact ⟨e', List.mem_cons_of_mem _ h1, h2⟩
theorem memo_ok {P : Program} {gl : Gl} {L : List Rule} (h : ∀ e ∈ L, JcA P gl e) (base : Nat) : @Jdw (JfV gl L) P base := by
 letI : Memo := JfV gl L
 intro gl' f args st v st' hv g w cargs hgl hi hr
 obtain ⟨e, he, rfl, h1⟩ := Jhg f args st _ L hv
 have hon : gl' = gl := hgl.only
 subst hon
 exact h e he args st v st' h1 base g w cargs hgl.at_ hi hr
noncomputable def gives (P : Program) [Memo] (gl : Gl) (n : Nat) (e : Ent) : Bool :=
 match X P n (.call gl e.f e.args) ⟨0, .nil⟩ with
 | .call (.val u _) => veq 300 u e.v
 | _ => false
theorem Jmv {B B' : Nat} (h : B ≤ B') {w w' : World} (k : Below B' w w') : Below B w w' := ⟨k.os, k.tape, k.output, k.size, fun i hi => k.block i (Nat.lt_of_lt_of_le hi h)⟩
theorem Jji [Memo] {P : Program} (hm : P.follows .mixedOrders = true) (hmemo : ∀ base, Jdw P base) {gl : Gl} (hon : Memo.only gl) (hgl0 : gl.allB (fun l => l.all (Jac true 50)) = true) {N : Nat} {e : Ent} {st1 : St}
  (ha : e.args.all (Jac true 50) = true) (hv : Jac false 50 e.v = true) (hx : X P N (.call gl e.f e.args) ⟨0, .nil⟩ = .call (.val e.v st1)) : EntOk P gl e := by
 intro base st g w cargs hgl hi hr
 have hs := sound hm w.heap.size (hmemo _) N gl (.f e.f) e.args ⟨0, .nil⟩
 have hih : ihCall (X P N) gl (.f e.f) e.args ⟨0, .nil⟩ = .val e.v st1 := by simp [ihCall, hx]
 rw [hih] at hs
 have carry : ∀ v c, Jac true 50 v = true → R g v c → R ⟨g.pub, fun _ => none⟩ v c := R.carry (p := true) (g := g) (g' := ⟨g.pub, fun _ => none⟩) (fun _ b o c h => h) 50
 have i0 : Inv w.heap.size ⟨g.pub, fun _ => none⟩ (⟨0, .nil⟩ : St).abs w :=
  ⟨Nat.le_refl _, hi.pub, fun i x h => by simp [St.abs, Tr.get] at h, fun _ _ _ _ h => by simp at h, fun _ _ _ _ _ _ _ _ _ h => by simp [St.abs, Tr.get] at h, fun _ _ => ⟨rfl, rfl⟩⟩
 have g0 : GlR ⟨g.pub, fun _ => none⟩ gl := ⟨fun k cs hk => by
  obtain ⟨l, h1, h2⟩ := hgl k cs hk
  exact ⟨l, Rs.carry carry (Tr.allB_get _ gl k cs hgl0 hk) h1, h2⟩, hon⟩
 refine (hs _ w cargs g0 i0 (Rs.carry carry ha hr)).mono ?_
 rintro en w' ⟨g', c, rfl, h1, _, h3⟩
 have hown : ∀ b, b < w.heap.size → w'.heap[b]? = w.heap[b]? := fun b hb => h3.below.block b hb
 have hrc : R g e.v c := R.carry (fun h => by cases h) 50 _ _ hv h1
 refine ⟨c, rfl, hrc, ⟨Nat.le_trans hi.size h3.below.size, fun b o c hc => ?_, fun i x hx => ?_, fun i b o bs hb => ?_, hi.boxinj, hi.fresh⟩, ⟨.refl g, Nat.le_refl _, Jmv hi.size h3.below, fun b hb _ => hown b hb, fun _ _ h => h, fun _ _ h => ⟨h, rfl⟩⟩⟩
 ·have := hi.pub b o c hc
  have hb : b < w.heap.size := by
   by_cases hb : b < w.heap.size
   ·exact hb
   ·exfalso
    have hn : w.heap[b]? = none := Array.getElem?_eq_none (by omega)
    simp [World.cell?, hn] at this
  simp only [World.cell?] at this ⊢
  rw [hown b hb]
  exact this
 ·obtain ⟨b, o, bs, m, q1, q2, q3⟩ := hi.box i x hx
  have hb := (hi.boxat i b o bs q1).2.1
  exact ⟨b, o, bs, m, q1, by rw [hown b hb]; exact q2, q3⟩
 ·obtain ⟨q1, q2, q3⟩ := hi.boxat i b o bs hb
  exact ⟨q1, Nat.lt_of_lt_of_le q2 h3.below.size, q3⟩
theorem JcB {P : Program} (hm : P.follows .mixedOrders = true) {gl : Gl} {L : List Rule} (hL : ∀ e ∈ L, JcA P gl e) (hgl0 : gl.allB (fun l => l.all (Jac true 50)) = true) {n : Nat} {e : Ent}
  (ha : e.args.all (Jac true 50) = true) (hv : Jac false 50 e.v = true) (h : @gives P (JfV gl L) gl n e = true) : EntOk P gl e := by
 letI : Memo := JfV gl L
 have hx : ∃ N u st1, X P N (.call gl e.f e.args) ⟨0, .nil⟩ = .call (.val u st1) ∧ u = e.v := by
  unfold gives at h
  cases hf : X P n (.call gl e.f e.args) ⟨0, .nil⟩ with
  | call r =>
   rw [hf] at h
   cases r with
   | val u st1 => exact ⟨n, u, st1, hf, JdJ _ _ _ h⟩
   | _ => cases h
  | _ => rw [hf] at h; cases h
 obtain ⟨N, u, st1, hx, rfl⟩ := hx
 exact Jji hm (memo_ok hL) rfl hgl0 ha hv hx
theorem Jdg {P : Program} {gl : Gl} : ∀ e ∈ ([] : List Rule), JcA P gl e := fun _ h => by cases h
theorem JcC {P : Program} {gl : Gl} {e : Rule} {L : List Rule} (h : JcA P gl e) (hL : ∀ e ∈ L, JcA P gl e) : ∀ e' ∈ e :: L, JcA P gl e' := fun e' h' => by
 rcases List.mem_cons.1 h' with rfl | h'
 ·exact h
 ·exact hL e' h'
end Go.Vm
