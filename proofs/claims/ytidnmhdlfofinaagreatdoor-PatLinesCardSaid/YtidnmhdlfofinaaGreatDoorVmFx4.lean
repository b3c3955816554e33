/- The fast evaluator: its paths, its boxes, its environments, its operations on values. -/
import Derived.Test.YtidnmhdlfofinaaGreatDoorVmFx3
import Derived.Test.YtidnmhdlfofinaaGreatDoorVmRel
namespace Go.Vm
open Go
theorem getC_run : ∀ (f n : Nat) (t : Tr V), n < f → (getC f n).run t = atT t n := by
  intro f
  induction f with
  | zero => intro n t h; omega
  | succ f ih =>
    intro n t hn
    unfold getC
    cases h0 : Nat.beq n 0 with
    | true =>
      have : n = 0 := Nat.eq_of_beq_eq_true h0
      subst this
      cases t with
      | nil => rfl
      | node l v r => cases v <;> rfl
    | false =>
      have hne : n ≠ 0 := fun e => by subst e; simp at h0
      cases h1 : Nat.beq (Nat.mod n 2) 1 with
      | true =>
        cases t with
        | nil => rfl
        | node l v r =>
          have := ih (Nat.div n 2) l (by have : Nat.div n 2 = n / 2 := rfl; omega)
          simp only [this]
          simp only [atT, Tr.get, h0, h1]
      | false =>
        cases t with
        | nil => rfl
        | node l v r =>
          have := ih (Nat.pred (Nat.div n 2)) r (by have : Nat.div n 2 = n / 2 := rfl; simp only [Nat.pred_eq_sub_one]; omega)
          simp only [this]
          simp only [atT, Tr.get, h0, h1]
theorem gt_run (n : Nat) (t : Tr V) : (gt n).run t = atT t n := getC_run _ _ _ (Nat.lt_succ_self n)
theorem putC_run : ∀ (f n : Nat) (t : Tr V) (x : V), n < f → (putC f n).run t x = Tr.set f t n (some x) := by
  intro f
  induction f with
  | zero => intro n t x h; omega
  | succ f ih =>
    intro n t x hn
    unfold putC
    cases h0 : Nat.beq n 0 with
    | true => cases t <;> simp only [Tr.set, h0]
    | false =>
      have hne : n ≠ 0 := fun e => by subst e; simp at h0
      cases h1 : Nat.beq (Nat.mod n 2) 1 with
      | true =>
        have hl : Nat.div n 2 < f := by have : Nat.div n 2 = n / 2 := rfl; omega
        cases t with
        | nil => simp only [Tr.set, h0, h1, ih _ _ _ hl]
        | node l v r => simp only [Tr.set, h0, h1, ih _ _ _ hl]
      | false =>
        have hl : Nat.pred (Nat.div n 2) < f := by have : Nat.div n 2 = n / 2 := rfl; simp only [Nat.pred_eq_sub_one]; omega
        cases t with
        | nil => simp only [Tr.set, h0, h1, ih _ _ _ hl]
        | node l v r => simp only [Tr.set, h0, h1, ih _ _ _ hl]
theorem pt_run (n : Nat) (t : Tr V) (x : V) : (pt n).run t x = t.put n x := putC_run _ _ _ _ (Nat.lt_succ_self n)
theorem trGet_eq {α : Type} : ∀ (t : Tr α) (n : Nat), trGet t n = t.get n
  | .nil, n => rfl
  | .node l v r, n => by
    have hl := trGet_eq l
    have hr := trGet_eq r
    simp only [trGet] at hl hr ⊢
    simp only [hl, hr, Tr.get]
    cases Nat.beq n 0 with
    | true => rfl
    | false => cases Nat.beq (Nat.mod n 2) 1 <;> rfl
theorem trSet_eq {α : Type} : ∀ (f : Nat) (t : Tr α) (n : Nat) (x : Option α), trSet f t n x = Tr.set f t n x
  | 0, t, n, x => rfl
  | f + 1, t, n, x => by
    have ih := trSet_eq (α := α) f
    simp only [trSet] at ih ⊢
    cases t with
    | nil =>
      simp only [ih, Tr.set]
      cases Nat.beq n 0 with
      | true => rfl
      | false => cases Nat.beq (Nat.mod n 2) 1 <;> rfl
    | node l v r =>
      simp only [ih, Tr.set]
      cases Nat.beq n 0 with
      | true => rfl
      | false => cases Nat.beq (Nat.mod n 2) 1 <;> rfl
theorem trPut_eq {α : Type} (t : Tr α) (n : Nat) (x : α) : trPut t n x = t.put n x := trSet_eq _ _ _ _
theorem nthL_eq {α : Type} : ∀ (n : Nat) (l : List α), nthL n l = l[n]?
  | 0, [] => rfl
  | 0, x :: r => rfl
  | n + 1, [] => rfl
  | n + 1, x :: r => by
    have := nthL_eq n r
    simp only [nthL] at this ⊢
    simp only [this]
    rfl
theorem setN_eq (v : V) : ∀ (n : Nat) (l : List V), setN v n l = if n < l.length then some (l.take n ++ [v] ++ l.drop (n + 1)) else none
  | 0, [] => rfl
  | 0, x :: r => by
    show some (v :: r) = _
    simp
  | n + 1, [] => rfl
  | n + 1, x :: r => by
    have := setN_eq v n r
    simp only [setN] at this ⊢
    simp only [this]
    by_cases h : n < r.length
    · simp [h]
    · simp [h]
theorem nthR_eq : ∀ (i : Nat) (l : List V) (t : Tr V), (nthC i).run t l = l.getD i V.undef
  | 0, [], t => rfl
  | 0, x :: r, t => rfl
  | i + 1, [], t => rfl
  | i + 1, x :: r, t => by
    have := nthR_eq i r t
    simp only [nthC]
    simpa using this
noncomputable def val (h : Nat) (t : Tr V) (ρ : List V) (s : Src) : V := (rdS h s).run t ρ
theorem val_fr (h : Nat) (t : Tr V) (ρ : List V) (s : Nat) : val h t ρ (.fr s) = atT t s := gt_run s t
theorem val_k (h : Nat) (t : Tr V) (ρ : List V) (v : V) : val h t ρ (.k v) = v := rfl
theorem val_st (h : Nat) (t : Tr V) (ρ : List V) (i : Nat) : val h t ρ (.st i) = ρ.getD (h - 1 - i) V.undef := nthR_eq _ _ _
structure Sim (L : Nat) (gl : Gl) (t : Tr V) (fr : Fr) : Prop where
  at_ : ∀ s, isL L s = false → atT t s = Fr.at fr s
  ds : fr.ds = []
  gl : fr.gl = gl
structure EI (L : Nat) (gl : Gl) (E : Env) (h : Nat) (t : Tr V) (ρ : List V) (fr : Fr) : Prop extends Sim L gl t fr where
  len : ρ.length = h
  env : ∀ d s, look E d = some s → val h t ρ s = Fr.at fr d
  low : ∀ d i, look E d = some (.st i) → i < h
theorem Fr.at_eq (fr : Fr) (s : Nat) : Fr.at fr s = atT fr.t s := rfl
theorem Fr.atTo (fr : Fr) (d : Option Tmp) (v : V) (s : Nat) : Fr.at (Fr.to fr d v) s = if d = some s then v else Fr.at fr s := by
  cases d with
  | none => simp [Fr.to]
  | some d =>
    simp only [Fr.to, Fr.at_eq, atT, Tr.get_put, Option.some.injEq]
    by_cases h : s = d
    · subst h; simp
    · simp [h, Ne.symm h]
theorem Fr.dsTo (fr : Fr) (d : Option Tmp) (v : V) : (Fr.to fr d v).ds = fr.ds := by cases d <;> rfl
theorem Fr.glTo (fr : Fr) (d : Option Tmp) (v : V) : (Fr.to fr d v).gl = fr.gl := by cases d <;> rfl
theorem rdO_ok {L : Nat} {gl : Gl} {E : Env} {h : Nat} {t : Tr V} {ρ : List V} {fr : Fr} (e : EI L gl E h t ρ fr) {x : Operand} {g : Rd} (hg : rdO L E h x = some g) : ev fr x = some (g.run t ρ) := by
  cases x with
  | tmp s =>
    simp only [rdO, rdT] at hg
    split at hg
    · rename_i src hs
      simp only [Option.some.injEq] at hg; subst hg
      have := e.env s src hs
      have h1 : (rdS h src).run t ρ = Fr.at fr s := this
      simp [ev, h1]
    · split at hg
      · cases hg
      · rename_i hl
        simp only [Option.some.injEq] at hg; subst hg
        have h1 : (rdS h (.fr s)).run t ρ = Fr.at fr s := (val_fr h t ρ s).trans (e.at_ s hl)
        simp [ev, h1]
  | const v =>
    simp only [rdO] at hg
    split at hg
    · rename_i w hw
      simp only [Option.some.injEq] at hg; subst hg
      simpa [ev] using hw
    · cases hg
  | func f => simp only [rdO, Option.some.injEq] at hg; subst hg; rfl
  | global k => simp [rdO] at hg
theorem rdL_ok {L : Nat} {gl : Gl} {E : Env} {h : Nat} {t : Tr V} {ρ : List V} {fr : Fr} (e : EI L gl E h t ρ fr) : ∀ {xs : List Operand} {l : Ls}, rdL L E h xs = some l → evs fr xs = some (l.run t ρ)
  | [], l, hl => by simp only [rdL, Option.some.injEq] at hl; subst hl; rfl
  | x :: r, l, hl => by
    simp only [rdL] at hl
    split at hl
    · rename_i g l' hg hl'
      simp only [Option.some.injEq] at hl; subst hl
      have h1 := rdO_ok e hg
      have h2 := rdL_ok e hl'
      simp only [evs] at h2
      simp [evs, traverse, h1, h2]
    · cases hl
end Go.Vm
