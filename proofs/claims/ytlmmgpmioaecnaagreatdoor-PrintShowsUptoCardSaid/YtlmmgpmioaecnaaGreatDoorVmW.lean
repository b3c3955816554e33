/- The evaluator at great fuel, as one function: its equations, and rules for code. -/
import Derived.Test.YtlmmgpmioaecnaaGreatDoorVmFx
namespace Go.Vm
open Go
def Jib : Res → Bool
 | .fail _ => false
 | _ => true
theorem Ev.both {φ ψ : Nat → Prop} (h : Ev φ) (k : Ev ψ) : ∃ m, φ m ∧ ψ m := by
 obtain ⟨N, h⟩ := h.and k
 exact ⟨N, h N (Nat.le_refl N)⟩
open Classical in
noncomputable def W [Memo] (P : Program) : Ih := fun t st => if h : ∃ r, Jib r = true ∧ Ev fun m => X P m t st = r then Classical.choose h else .fail ""
theorem JnD [Memo] {P : Program} {t : Task} {st : St} {r : Res} (hr : Jib r = true) (h : Ev fun m => X P m t st = r) : W P t st = r := by
 have hex : ∃ r, Jib r = true ∧ Ev fun m => X P m t st = r := ⟨r, hr, h⟩
 unfold W
 rw [dif_pos hex]
 obtain ⟨m, h1, h2⟩ := (Classical.choose_spec hex).2.both h
 exact h1.symm.trans h2
theorem JnE [Memo] (P : Program) : Jfu P (W P) := fun t st => by
 unfold W
 by_cases hex : ∃ r, Jib r = true ∧ Ev fun m => X P m t st = r
 ·rw [dif_pos hex]
  exact .inr (Classical.choose_spec hex).2
 ·rw [dif_neg hex]
  exact .inl ⟨"", rfl⟩
theorem W_fuel [Memo] {P : Program} {t : Task} {st : St} {r : Res} (h : W P t st = r) (hr : Jib r = true) : ∃ n, X P n t st = r := by
 rcases JnE P t st with ⟨w, hw⟩ | ⟨N, hN⟩
 ·rw [hw] at h; subst h; cases hr
 ·exact ⟨N, (hN N (Nat.le_refl N)).trans h⟩
theorem Jaj [Memo] {P : Program} {c : Code} {fr : Fr} {st : St} {r : Res} (h : body P (W P) (.code none c fr) st = r) (hr : Jib r = true) : W P (.code none c fr) st = r := by
 rcases Jj1 (JnE P) none c fr st with ⟨w, hw⟩ | he
 ·rw [hw] at h; subst h; cases hr
 ·refine JnD hr (.step (he.mono fun m hm => ?_))
  rw [← h, ← hm]
  rfl
theorem Jmm [Memo] {P : Program} {gl : Gl} {f : Nat} {args : List V} {st : St} {r : Res} (hn : (Memo.look f).run args st = none) (h : body P (W P) (.call gl f args) st = r) (hr : Jib r = true) : W P (.call gl f args) st = r := by
 rcases Jnq (JnE P) gl f args st with ⟨w, hw⟩ | he
 ·rw [hw] at h; subst h; cases hr
 ·refine JnD hr (.step (he.mono fun m hm => ?_))
  show X P (m + 1) (.call gl f args) st = r
  simp only [X, JdX, hn]
  rw [hm, h]
def Does [Memo] (P : Program) (c : Code) (fr : Fr) (st : St) (Q : AE → Fr → St → Prop) : Prop := ∃ e fr' st', W P (.code none c fr) st = .code e fr' st' ∧ Q e fr' st'
def Oks [Memo] (P : Program) (ops : Array Oper) (l : List Oper) (fr : Fr) (st : St) (Q : Fr → St → Prop) : Prop :=
 match J8 P (ihCall (W P)) none ops l fr st with
 | .ok fr' st' => Q fr' st'
 | _ => False
variable {P : Program} {fr : Fr} {st : St} {Q : AE → Fr → St → Prop}
theorem Does.mono [Memo] {c : Code} {R : AE → Fr → St → Prop} (h : Does P c fr st Q) (k : ∀ e fr' st', Q e fr' st' → R e fr' st') : Does P c fr st R := by
 obtain ⟨e, fr', st', h1, h2⟩ := h
 exact ⟨e, fr', st', h1, k _ _ _ h2⟩
theorem Does.skip [Memo] (h : Q .normal fr st) : Does P .skip fr st Q := ⟨_, _, _, Jaj rfl rfl, h⟩
theorem Does.exit [Memo] {id : Nat} (h : Q (.exit id) fr st) : Does P (.exit id) fr st Q := ⟨_, _, _, Jaj rfl rfl, h⟩
theorem Does.ret [Memo] (h : Q .ret fr st) : Does P .ret fr st Q := ⟨_, _, _, Jaj rfl rfl, h⟩
def andThen (K : Fr → St → Prop) (Q : AE → Fr → St → Prop) : AE → Fr → St → Prop
 | .normal, fr, st => K fr st
 | e, fr, st => Q e fr st
theorem Does.seq [Memo] {a b : Code} (h : Does P a fr st (andThen (fun fr st => Does P b fr st Q) Q)) : Does P (.seq a b) fr st Q := by
 obtain ⟨e, fr1, st1, h1, h2⟩ := h
 cases e with
 | normal =>
  obtain ⟨e2, fr2, st2, h3, h4⟩ := h2
  exact ⟨e2, fr2, st2, Jaj (by simp only [body, h1, h3]) rfl, h4⟩
 | exit id => exact ⟨_, _, _, Jaj (by simp only [body, h1]) rfl, h2⟩
 | ret => exact ⟨_, _, _, Jaj (by simp only [body, h1]) rfl, h2⟩
 | panic v => exact ⟨_, _, _, Jaj (by simp only [body, h1]) rfl, h2⟩
theorem Does.condT [Memo] {x : Operand} {a b : Code} (hx : ev fr x = some (.bool true)) (h : Does P a fr st Q) : Does P (.cond x a b) fr st Q := by
 obtain ⟨e, fr1, st1, h1, h2⟩ := h
 exact ⟨e, fr1, st1, Jaj (by simp only [body, hx, h1]) rfl, h2⟩
theorem Does.condF [Memo] {x : Operand} {a b : Code} (hx : ev fr x = some (.bool false)) (h : Does P b fr st Q) : Does P (.cond x a b) fr st Q := by
 obtain ⟨e, fr1, st1, h1, h2⟩ := h
 exact ⟨e, fr1, st1, Jaj (by simp only [body, hx, h1]) rfl, h2⟩
def inBlock (id : Nat) (Q : AE → Fr → St → Prop) : AE → Fr → St → Prop
 | .exit j, fr, st => if j = id then Q .normal fr st else Q (.exit j) fr st
 | e, fr, st => Q e fr st
theorem Does.block [Memo] {id : Nat} {b : Code} (h : Does P b fr st (inBlock id Q)) : Does P (.block id b) fr st Q := by
 obtain ⟨e, fr1, st1, h1, h2⟩ := h
 cases e with
 | normal => exact ⟨_, _, _, Jaj (by simp only [body, h1]) rfl, h2⟩
 | exit j =>
  simp only [inBlock] at h2
  by_cases hj : j = id
  ·subst hj
   simp only [if_true] at h2
   exact ⟨.normal, fr1, st1, Jaj (by simp only [body, h1, Nat.beq_refl]) rfl, h2⟩
  ·simp only [hj, if_false] at h2
   have : Nat.beq j id = false := by rw [Je9]; exact decide_eq_false hj
   exact ⟨.exit j, fr1, st1, Jaj (by simp only [body, h1, this]) rfl, h2⟩
 | ret => exact ⟨_, _, _, Jaj (by simp only [body, h1]) rfl, h2⟩
 | panic v => exact ⟨_, _, _, Jaj (by simp only [body, h1]) rfl, h2⟩
theorem Does.loop [Memo] {b : Code} (h : Does P b fr st (andThen (fun fr st => Does P (.loop b) fr st Q) Q)) : Does P (.loop b) fr st Q := by
 obtain ⟨e, fr1, st1, h1, h2⟩ := h
 cases e with
 | normal =>
  obtain ⟨e2, fr2, st2, h3, h4⟩ := h2
  exact ⟨e2, fr2, st2, Jaj (by simp only [body, h1, h3]) rfl, h4⟩
 | exit id => exact ⟨_, _, _, Jaj (by simp only [body, h1]) rfl, h2⟩
 | ret => exact ⟨_, _, _, Jaj (by simp only [body, h1]) rfl, h2⟩
 | panic v => exact ⟨_, _, _, Jaj (by simp only [body, h1]) rfl, h2⟩
theorem Does.inv [Memo] {b : Code} {Q : AE → Fr → St → Prop} (I : Nat → Fr → St → Prop) : ∀ (n : Nat) {fr : Fr} {st : St}, I n fr st →
  (∀ n fr st, I n fr st → Does P b fr st (andThen (fun fr' st' => ∃ k, k < n ∧ I k fr' st') Q)) → Does P (.loop b) fr st Q := by
 intro n
 induction n using Nat.strongRecOn with
 | _ n ih =>
  intro fr st h0 step
  refine Does.loop ((step n fr st h0).mono fun e fr' st' h => ?_)
  cases e with
  | normal =>
   obtain ⟨k, hk, hi⟩ := h
   exact ih k hk hi step
  | exit id => exact h
  | ret => exact h
  | panic v => exact h
theorem Does.scope [Memo] {b : Code} (h : Does P b fr st Q) : Does P (.scope b) fr st Q := by
 obtain ⟨e, fr1, st1, h1, h2⟩ := h
 exact ⟨e, fr1, st1, Jaj (by simp only [body, h1]) rfl, h2⟩
theorem Does.region [Memo] {id : Nat} {ops : Array Oper} (h : Oks P ops ops.toList fr st (fun fr st => Q .normal fr st)) : Does P (.region id ops false) fr st Q := by
 unfold Oks at h
 cases hx : J8 P (ihCall (W P)) none ops ops.toList fr st with
 | ok fr1 st1 => rw [hx] at h; exact ⟨.normal, fr1, st1, Jaj (by simp only [body, hx]) rfl, h⟩
 | panic v fr1 st1 => rw [hx] at h; exact h.elim
 | fail w => rw [hx] at h; exact h.elim
theorem Does.draw [Memo] {id : Nat} {ops : Array Oper} {b l : List Nat} (hb : Qr ops = b) (hl : JcK P ops b = l) (hp : Ja7 P ops b l = true)
  (h : match J9 P (ihCall (W P)) ops b st.ctr l { fr := fr, st := { st with ctr := st.ctr + ops.size }, snaps := [(ops.size, { st with ctr := st.ctr + ops.size })] } with
   | some d => Q .normal d.fr d.st
   | none => False) : Does P (.region id ops true) fr st Q := by
 subst hb
 subst hl
 cases hx : J9 P (ihCall (W P)) ops (Qr ops) st.ctr (JcK P ops (Qr ops)) { fr := fr, st := { st with ctr := st.ctr + ops.size }, snaps := [(ops.size, { st with ctr := st.ctr + ops.size })] } with
 | none => rw [hx] at h; exact h.elim
 | some d => rw [hx] at h; exact ⟨.normal, d.fr, d.st, Jaj (by simp only [body, hp, hx]) rfl, h⟩
theorem Qg [Memo] {gl : Gl} {f : Nat} {args : List V} {fn : Func} {c : Code} {v : V} {st' : St} (hn : (Memo.look f).run args st = none) (hf : P.funcs[f]? = some fn) (hb : fn.body = some c)
  (hs : (Nat.ble args.length fn.ntmps && JV fn.ntmps c) = true)
  (h : Does P c (JC gl args) st fun e fr' st'' => (e = .ret ∨ e = .normal) ∧ fr'.ds = [] ∧ st'' = st' ∧ ∃ vs, Jc (Jw P fr' st'') fn.results.toList = some vs ∧ Jz vs = v) :
  W P (.call gl f args) st = .call (.val v st') := by
 obtain ⟨e, fr1, st1, h1, h2, h3, rfl, vs, h4, rfl⟩ := h
 refine Jmm hn ?_ rfl
 simp only [body, hf, hb, hs, h1]
 rcases h2 with rfl | rfl <;> simp only [h3, Jao, h4]
theorem J3 [Memo] {gl : Gl} {f : Nat} {args : List V} {fn : Func} {c : Code} {R : V → St → Prop} (hn : (Memo.look f).run args st = none) (hf : P.funcs[f]? = some fn) (hb : fn.body = some c)
  (hs : (Nat.ble args.length fn.ntmps && JV fn.ntmps c) = true)
  (h : Does P c (JC gl args) st fun e fr' st'' => (e = .ret ∨ e = .normal) ∧ fr'.ds = [] ∧ ∃ vs, Jc (Jw P fr' st'') fn.results.toList = some vs ∧ R (Jz vs) st'') :
  ∃ v st', W P (.call gl f args) st = .call (.val v st') ∧ R v st' := by
 obtain ⟨e, fr1, st1, h1, h2, h3, vs, h4, h5⟩ := h
 refine ⟨_, _, Jmm hn (r := .call (.val (Jz vs) st1)) ?_ rfl, h5⟩
 simp only [body, hf, hb, hs, h1]
 rcases h2 with rfl | rfl <;> simp only [h3, Jao, h4]
theorem Jh [Memo] {gl : Gl} {f : Nat} {args : List V} {v : V} {st' : St} (h : W P (.call gl f args) st = .call (.val v st')) : ihCall (W P) gl (.f f) args st = .val v st' := by
 simp [ihCall, h]
end Go.Vm
