/- What the evaluator's operations on values say of the model's own. -/
import Derived.Test.YtlmmgpmioaecnaaGreatDoorVmRel
namespace Go.Vm
open Go Go.RowKit
theorem JaT {α β : Type} {f : α → Option β} {x : α} {xs : List α} {l : List β} (h : Jc f (x :: xs) = some l) :
  ∃ y ys, f x = some y ∧ Jc f xs = some ys ∧ l = y :: ys := by
 simp only [Jc] at h
 split at h
 ·rename_i y hy
  split at h
  ·rename_i ys hys
   exact ⟨y, ys, hy, hys, by simpa using h.symm⟩
  ·simp at h
 ·simp at h
theorem Jcp {g : Gh} {d : Nat} (ih : ∀ (v : V) (c0 c : Value), ofV d v = some c0 → R g v c → c = c0) :
  ∀ (vs : List V) (l l' : List Value), Jc (ofV d) vs = some l → Rs g vs l' → l' = l
 | [], l, l', h, hr => by cases hr; simp [Jc] at h; exact h.symm ▸ rfl
 | v :: vs, l, l', h, hr => by
  obtain ⟨y, ys, h1, h2, rfl⟩ := JaT h
  cases hr with
  | cons _ c _ cs hc hcs => rw [ih v y c h1 hc, Jcp ih vs ys cs h2 hcs]
theorem JoO {g : Gh} : ∀ (d : Nat) (v : V) (c0 c : Value), ofV d v = some c0 → R g v c → c = c0 := by
 intro d
 induction d with
 | zero => intro v c0 c h; simp [ofV] at h
 | succ d ih =>
  intro v c0 c h hr
  cases v <;> simp only [ofV] at h <;> try (simp at h; done)
  case bool b => cases hr; simpa using h
  case int k n => cases hr; simpa using h
  case str l => cases hr; simpa using h
  case nilp => cases hr; simpa using h
  case nils => cases hr; simpa using h
  case nilf => cases hr; simpa using h
  case nili => cases hr; simpa using h
  case nilm => cases hr; simpa using h
  case agg cs =>
   cases hr with
   | agg _ l hl =>
    split at h
    ·rename_i l0 h0
     rw [Jcp ih cs l0 l h0 hl]
     simpa using h
    ·simp at h
  case tup cs =>
   cases hr with
   | tup _ l hl =>
    split at h
    ·rename_i l0 h0
     rw [Jcp ih cs l0 l h0 hl]
     simpa using h
    ·simp at h
  case fn f a b =>
   cases hr with
   | fn _ _ _ la lb ha hb =>
    split at h
    ·rename_i a0 b0 h1 h2
     rw [Jcp ih a a0 la h1 ha, Jcp ih b b0 lb h2 hb]
     simpa using h
    ·simp at h
  case iface t x =>
   cases hr with
   | iface _ _ y hy =>
    split at h
    ·rename_i x0 h1
     rw [ih x x0 y h1 hy]
     simpa using h
    ·simp at h
theorem Jkx {g : Gh} {d : Nat} {vs : List V} {l l' : List Value} (h : Jc (ofV d) vs = some l) (hr : Rs g vs l') : l' = l :=
 Jcp (JoO d) vs l l' h hr
theorem Jc7 {g : Gh} {d : Nat} (ih : ∀ (c : Value) (v : V), toV d c = some v → R g v c) :
  ∀ (l : List Value) (vs : List V), Jc (toV d) l = some vs → Rs g vs l
 | [], vs, h => by simp [Jc] at h; subst h; exact .nil
 | c :: cs, vs, h => by
  obtain ⟨y, ys, h1, h2, rfl⟩ := JaT h
  exact .cons _ _ _ _ (ih c y h1) (Jc7 ih cs ys h2)
theorem Jky {g : Gh} : ∀ (d : Nat) (c : Value) (v : V), toV d c = some v → R g v c := by
 intro d
 induction d with
 | zero => intro c v h; simp [toV] at h
 | succ d ih =>
  intro c v h
  cases c with
  | bool b => simp [toV] at h; subst h; exact .bool _
  | int k n => simp [toV] at h; subst h; exact .int _ _
  | string s =>
   simp only [toV, Option.some.injEq] at h; subst h
   have := R.str (g := g) (S.ofList s.data.toList)
   rwa [S.toList_ofList] at this
  | nilFunc => simp [toV] at h; subst h; exact .nilf
  | nilIface => simp [toV] at h; subst h; exact .nili
  | pointer a => cases a with
   | none => simp [toV] at h; subst h; exact .nilp
   | some a => simp [toV] at h
  | map a => cases a with
   | none => simp [toV] at h; subst h; exact .nilm
   | some a => simp [toV] at h
  | slice a n k => cases a with
   | some a => simp [toV] at h
   | none =>
    simp only [toV] at h
    split at h
    ·rename_i h1 h2
     simp only [Option.some.injEq] at h
     subst h
     have e1 := Nat.eq_of_beq_eq_true h1
     have e2 := Nat.eq_of_beq_eq_true h2
     subst e1 e2
     exact .nils
    ·simp at h
  | agg cs =>
   simp only [toV] at h
   split at h
   ·rename_i l h1
    simp only [Option.some.injEq] at h; subst h
    exact .agg _ cs.toList (Jc7 ih _ _ h1)
   ·simp at h
  | tuple cs =>
   simp only [toV] at h
   split at h
   ·rename_i l h1
    simp only [Option.some.injEq] at h; subst h
    exact .tup _ cs.toList (Jc7 ih _ _ h1)
   ·simp at h
  | func f x y => cases f with
   | func f =>
    simp only [toV] at h
    split at h
    ·rename_i a b h1 h2
     simp only [Option.some.injEq] at h; subst h
     exact .fn _ _ _ x.toList y.toList (Jc7 ih _ _ h1) (Jc7 ih _ _ h2)
    ·simp at h
   | _ => simp [toV] at h
  | iface t x =>
   simp only [toV] at h
   split at h
   ·rename_i y h1
    simp only [Option.some.injEq] at h; subst h
    exact .iface _ _ _ (ih _ _ h1)
   ·simp at h
  | _ => simp [toV] at h
theorem JjG {α β : Type} (P : Program) : ∀ (s : Sem α) (f : α → Sem β) (b : β), QI P (s >>= f) = some b → ∃ a, QI P s = some a ∧ QI P (f a) = some b := by
 intro s
 induction s with
 | pure a => intro f b h; exact ⟨a, rfl, h⟩
 | program k ih => intro f b h; exact ih P f b h
 | mark m k ih => intro f b h; exact ih f b h
 | _ => intro f b h; simp [Bind.bind, Sem.bind, QI] at h
theorem Jew {α : Type} (P : Program) (w : World) : ∀ (s : Sem α) (a : α), QI P s = some a → s.run P w = .ok a w := by
 intro s
 induction s with
 | pure a => intro b h; simp [QI] at h; subst h; rfl
 | program k ih => intro b h; simp only [QI] at h; exact ih _ _ h
 | mark m k ih => intro b h; simp only [QI] at h; exact ih _ h
 | _ => intro b h; simp [QI] at h
theorem Jbm {P : Program} {g : Gh} {f : List Value → Sem Value} {vs : List V} {v : V} (h : QJ P f vs = some v) {cs : List Value} (hr : Rs g vs cs) (w : World) :
  ∃ c, (f cs).run P w = .ok c w ∧ R g v c := by
 unfold QJ at h
 split at h
 ·rename_i l hl
  split at h
  ·rename_i c hc
   rw [Jkx hl hr]
   exact ⟨c, Jew P w _ _ hc, Jky 6 _ _ h⟩
  ·simp at h
 ·simp at h
theorem Qh [Memo] {g : Gh} {N : Nat} {fr : Fr} {a : Act} (h : FR g N fr a) {x : Operand} {v : V} (hv : ev fr x = some v) : R g v (a.eval x) := by
 cases x with
 | tmp t => simp only [ev, Option.some.injEq] at hv; subst hv; exact h.at_ t
 | const c => exact Jky 4 _ _ hv
 | global n =>
  simp only [ev] at hv
  split at hv
  ·rename_i cs hcs
   simp only [Option.some.injEq] at hv; subst hv
   obtain ⟨l, h1, h2⟩ := h.gl.at_ n cs hcs
   exact .cp cs n 0 l h1 h2
  ·simp at hv
 | func f => simp only [ev, Option.some.injEq] at hv; subst hv; exact .fn _ _ _ _ _ .nil .nil
theorem Jd8 [Memo] {g : Gh} {N : Nat} {fr : Fr} {a : Act} (h : FR g N fr a) : ∀ {xs : List Operand} {vs : List V}, evs fr xs = some vs → Rs g vs (xs.map a.eval)
 | [], vs, hv => by simp [evs, Jc] at hv; subst hv; exact .nil
 | x :: xs, vs, hv => by
  obtain ⟨y, ys, h1, h2, rfl⟩ := JaT hv
  exact .cons _ _ _ _ (Qh h h1) (Jd8 h h2)
theorem JiD {P : Program} {op : BinOp} {t : TypeId} {a b : Value} {w : World} (x y : Operand) (h : (eqGuard op t (.tmp 0) (.tmp 0) a b).run P w = .ok () w) :
  (eqGuard op t x y a b).run P w = .ok () w := by
 unfold eqGuard at h ⊢
 by_cases hop : (match op with | .eql | .neq => true | _ => false) = true
 ·cases a <;> cases b <;> try exact h
  cases op <;> simp at hop <;> cases x <;> cases y <;> simp_all
 ·cases op <;> simp_all
theorem JF {P : Program} {t : TypeId} {z : Nat} (h : JR P t = some z) (w : World) : (sizeOf t).run P w = .ok z w := by
 unfold JR at h
 split at h
 ·rename_i i hi
  simp only [Option.some.injEq] at h; subst h
  simp [sizeOf, typeInfo, hi]
 ·simp at h
theorem Jlt {P : Program} {op : BinOp} {t : TypeId} {a b : Value} {w : World} (x y : Operand) (h : (eqGuard op t (opK (isK x || isK y)) (.tmp 0) a b).run P w = .ok () w) :
  (eqGuard op t x y a b).run P w = .ok () w := by
 cases hk : (isK x || isK y) with
 | false => rw [hk] at h; exact JiD x y h
 | true =>
  rw [hk] at h
  unfold eqGuard at h ⊢
  by_cases hop : (match op with | .eql | .neq => true | _ => false) = true
  ·cases a <;> cases b <;> try exact h
   cases op <;> simp at hop <;> cases x <;> cases y <;> simp_all [isK, opK]
  ·cases op <;> simp_all
theorem JeV {P : Program} {t : TypeId} {e : TypeId} (hu : P.underlying t = some (.pointer e)) {z : Nat} (hz : JR P e = some (z + 1)) (d : Nat) (b x y : Nat) (w : World) :
  (Op.equalIn (d + 1) t (.pointer (some ⟨b, x, none⟩)) (.pointer (some ⟨b, y, none⟩))).run P w = .ok (Nat.beq x y) w := by
 have : (Nat.beq x y) = ((⟨b, x, none⟩ : Addr) == ⟨b, y, none⟩) := by
  rw [Bool.eq_iff_iff]
  simp [Nat.beq_eq]
 simp [Op.equalIn, run_underlying hu, sameAddr, this, JF hz]
theorem JaK {P : Program} {t : TypeId} {e : TypeId} (hu : P.underlying t = some (.pointer e)) (d : Nat) (a : Addr) (w : World) : (Op.equalIn (d + 1) t (.pointer none) (.pointer (some a))).run P w = .ok false w := by
 simp [Op.equalIn, run_underlying hu]
theorem JoP (a b : List UInt8) : ((⟨⟨a⟩⟩ : ByteArray).toList == (⟨⟨b⟩⟩ : ByteArray).toList) = (a == b) := by
 simp [ByteArray.toList_eq]
theorem Jbq {P : Program} {t : TypeId} {e : TypeId} (hu : P.underlying t = some (.slice e)) (d : Nat) (a : Addr) (n c m k : Nat) (w : World) : (Op.equalIn (d + 1) t (.slice (some a) n c) (.slice none m k)).run P w = .ok false w := by
 simp [Op.equalIn, run_underlying hu]
theorem JaX {P : Program} {t : TypeId} {e : TypeId} (hu : P.underlying t = some (.pointer e)) (d : Nat) (a : Addr) (w : World) : (Op.equalIn (d + 1) t (.pointer (some a)) (.pointer none)).run P w = .ok false w := by
 simp [Op.equalIn, run_underlying hu]
theorem Jd9 {P : Program} {t : TypeId} {x y : Array TypeId} {z : Bool} (hu : P.underlying t = some (.func x y z)) (d : Nat) (f : Fn) (a b : Array Value) (w : World) : (Op.equalIn (d + 1) t (.func f a b) .nilFunc).run P w = .ok false w := by
 simp [Op.equalIn, run_underlying hu]
theorem Jdv {P : Program} {t : TypeId} {x : Array (String × TypeId)} (hu : P.underlying t = some (.interface x)) (d : Nat) (u : TypeId) (v : Value) (w : World) : (Op.equalIn (d + 1) t (.iface u v) .nilIface).run P w = .ok false w := by
 simp [Op.equalIn, run_underlying hu]
theorem Jav {P : Program} {t : TypeId} {x y : Value} {w : World} {b : Bool} (he : (Op.equalIn (9999 + 1) t x y).run P w = .ok b w)
  (hf : binOp .eql t x y = (do pure (.bool (← Op.equalIn (9999 + 1) t x y)))) : (binOp .eql t x y).run P w = .ok (.bool b) w := by
 rw [hf, Sem.run_bind, he]; rfl
theorem Jaw {P : Program} {t : TypeId} {x y : Value} {w : World} {b : Bool} (he : (Op.equalIn (9999 + 1) t x y).run P w = .ok b w)
  (hf : binOp .neq t x y = (do pure (.bool (!(← Op.equalIn (9999 + 1) t x y))))) : (binOp .neq t x y).run P w = .ok (.bool !b) w := by
 rw [hf, Sem.run_bind, he]; rfl
theorem Jm5 {P : Program} {g : Gh} {op : BinOp} {t : TypeId} {x y v : V} (ox oy : Operand) (h : Je P (isK ox || isK oy) op t x y = some v) {cx cy : Value} (hx : R g x cx) (hy : R g y cy) (w : World) :
  ∃ c, (do eqGuard op t ox oy cx cy; binOp op t cx cy : Sem Value).run P w = .ok c w ∧ R g v c := by
 have fall : QJ P (fun l => do eqGuard op t (opK (isK ox || isK oy)) (.tmp 0) (l.getD 0 undef) (l.getD 1 undef); binOp op t (l.getD 0 undef) (l.getD 1 undef)) [x, y] = some v →
   ∃ c, (do eqGuard op t ox oy cx cy; binOp op t cx cy : Sem Value).run P w = .ok c w ∧ R g v c := by
  intro h
  unfold QJ at h
  split at h
  ·rename_i l hl
   have e := Jkx hl (.cons _ _ _ _ hx (.cons _ _ _ _ hy .nil))
   subst e
   split at h
   ·rename_i c hc
    obtain ⟨u, h1, h2⟩ := JjG P _ _ _ hc
    simp only [List.getD_cons_zero, List.getD_cons_succ] at h1 h2
    refine ⟨c, ?_, Jky 6 _ _ h⟩
    rw [Sem.run_bind, Jlt ox oy (Jew P w _ _ h1)]
    exact Jew P w _ _ h2
   ·simp at h
  ·simp at h
 have direct : QJ P (fun l => binOp op t (l.getD 0 undef) (l.getD 1 undef)) [x, y] = some v → (eqGuard op t ox oy cx cy).run P w = .ok () w →
   ∃ c, (do eqGuard op t ox oy cx cy; binOp op t cx cy : Sem Value).run P w = .ok c w ∧ R g v c := by
  intro h hg
  obtain ⟨c, h1, h2⟩ := Jbm h (.cons _ _ _ _ hx (.cons _ _ _ _ hy .nil)) w
  refine ⟨c, ?_, h2⟩
  rw [Sem.run_bind, hg]
  exact h1
 have one : ∀ c, (eqGuard op t ox oy cx cy).run P w = .ok () w → (binOp op t cx cy).run P w = .ok c w → R g v c → ∃ c, (do eqGuard op t ox oy cx cy; binOp op t cx cy : Sem Value).run P w = .ok c w ∧ R g v c := by
  intro c hg hb hr
  refine ⟨c, ?_, hr⟩
  rw [Sem.run_bind, hg]
  exact hb
 unfold Je at h
 split at h
 ·
  rename_i k a j b
  cases hx; cases hy
  have hg : (eqGuard op t ox oy (.int k a) (.int j b)).run P w = .ok () w := by rw [eqGuard_at_int]; rfl
  split at h
  ·rename_i hk
   have hk : k = j := by simpa using hk
   subst hk
   split at h
   all_goals first
    | exact direct h hg
    | (simp only [Option.some.injEq] at h; subst h; refine one _ hg ?_ (by constructor); simp [go_sem, Op.intArith]; done)
    | (simp only [Option.some.injEq] at h; subst h; refine one _ hg ?_ (by constructor); simp [binOp, Op.intCmp, Op.intArith])
  ·exact direct h hg
 ·
  rename_i a b
  cases hx; cases hy
  have hg : (eqGuard op t ox oy (.string ⟨⟨a.toList⟩⟩) (.string ⟨⟨b.toList⟩⟩)).run P w = .ok () w := by rw [eqGuard_at_string]; rfl
  split at h
  ·split at h
   ·rename_i hle
    simp only [Option.some.injEq] at h; subst h
    have hle' : a.n + b.n ≤ maxStr := Nat.le_of_ble_eq_true hle
    refine one (.string ⟨⟨a.toList ++ b.toList⟩⟩) hg ?_ (by have := R.str (g := g) (a.app b); rwa [S.toList_app] at this)
    have hs : (⟨⟨a.toList⟩⟩ : ByteArray) ++ ⟨⟨b.toList⟩⟩ = ⟨⟨a.toList ++ b.toList⟩⟩ := by
     apply ByteArray.ext
     simp
    have hz : ¬ ((((⟨⟨a.toList⟩⟩ : ByteArray).size + (⟨⟨b.toList⟩⟩ : ByteArray).size : Nat) : Int) > IntKind.i64.max) := by
     have e1 : (⟨⟨a.toList⟩⟩ : ByteArray).size = a.n := a.len
     have e2 : (⟨⟨b.toList⟩⟩ : ByteArray).size = b.n := b.len
     rw [e1, e2, IntKind.max_i64]
     unfold maxStr at hle'
     omega
    simp only [binOp, Op.stringOp]
    rw [if_neg hz, hs]
    rfl
   ·simp at h
  all_goals first
   | (simp at h; done)
   | (simp only [Option.some.injEq] at h; subst h; refine one _ hg ?_ (by constructor); simp [binOp, Op.stringOp, ByteArray.toList_eq, S.same_eq, S.less_eq]; done)
   | (simp only [Option.some.injEq] at h; subst h; refine one _ hg ?_ (by constructor); simp only [binOp, Op.stringOp, JoP, S.same_eq, S.less_eq]; rfl)
 ·cases hx <;> cases hy <;>
  split at h <;> (try (simp at h; done)) <;> (rename_i hu; simp only [Option.some.injEq] at h; subst h; refine one _ (by rw [eqGuard_at_slice]; rfl) ?_ (by constructor); first | exact Jav (Jbq hu _ _ _ _ _ _ _) rfl | exact Jaw (Jbq hu _ _ _ _ _ _ _) rfl)
 ·cases hx; cases hy
  split at h <;> (try (simp at h; done)) <;> (rename_i hu; simp only [Option.some.injEq] at h; subst h; refine one _ (by rw [eqGuard_at_slice]; rfl) ?_ (by constructor); first | exact Jav (Jbq hu _ _ _ _ _ _ _) rfl | exact Jaw (Jbq hu _ _ _ _ _ _ _) rfl)
 ·cases hx; cases hy
  split at h <;> (try (simp at h; done)) <;> (rename_i hu; simp only [Option.some.injEq] at h; subst h; refine one _ (by rw [eqGuard_at_pointer]; rfl) ?_ (by constructor); first | exact Jav (JaX hu _ _ _) rfl | exact Jaw (JaX hu _ _ _) rfl)
 ·cases hx; cases hy
  split at h <;> (try (simp at h; done)) <;> (rename_i hu; simp only [Option.some.injEq] at h; subst h; refine one _ (by rw [eqGuard_at_pointer]; rfl) ?_ (by constructor); first | exact Jav (JaX hu _ _ _) rfl | exact Jaw (JaX hu _ _ _) rfl)
 ·rename_i i a j b
  split at h
  ·rename_i hij hu
   have hij := Nat.eq_of_beq_eq_true hij
   subst hij
   split at h
   rotate_left
   ·simp at h
   rename_i z hz
   simp only [Option.some.injEq] at h; subst h
   cases hx with
   | ptr _ _ b1 o1 bs1 hb1 =>
   cases hy with
   | ptr _ _ b2 o2 bs2 hb2 =>
   rw [hb1] at hb2
   simp only [Option.some.injEq, Prod.mk.injEq] at hb2
   obtain ⟨rfl, rfl, rfl⟩ := hb2
   have e : Nat.beq a b = Nat.beq (o1 + a) (o1 + b) := by rw [Bool.eq_iff_iff]; simp [Nat.beq_eq]
   exact one _ (by rw [eqGuard_at_pointer]; rfl) (Jav (JeV hu hz _ _ _ _ _) rfl) (by rw [e]; exact .bool _)
  ·rename_i hij hu
   have hij := Nat.eq_of_beq_eq_true hij
   subst hij
   split at h
   rotate_left
   ·simp at h
   rename_i z hz
   simp only [Option.some.injEq] at h; subst h
   cases hx with
   | ptr _ _ b1 o1 bs1 hb1 =>
   cases hy with
   | ptr _ _ b2 o2 bs2 hb2 =>
   rw [hb1] at hb2
   simp only [Option.some.injEq, Prod.mk.injEq] at hb2
   obtain ⟨rfl, rfl, rfl⟩ := hb2
   have e : Nat.beq a b = Nat.beq (o1 + a) (o1 + b) := by rw [Bool.eq_iff_iff]; simp [Nat.beq_eq]
   exact one _ (by rw [eqGuard_at_pointer]; rfl) (Jaw (JeV hu hz _ _ _ _ _) rfl) (by rw [e]; exact .bool _)
  ·simp at h
 ·cases hx; cases hy
  split at h <;> (try (simp at h; done)) <;> (rename_i hu; simp only [Option.some.injEq] at h; subst h; refine one _ (by rw [eqGuard_at_pointer]; rfl) ?_ (by constructor); first | exact Jav (JaK hu _ _ _) rfl | exact Jaw (JaK hu _ _ _) rfl)
 ·cases hx; cases hy
  split at h <;> (try (simp at h; done)) <;> (rename_i hu; simp only [Option.some.injEq] at h; subst h; refine one _ (by rw [eqGuard_at_pointer]; rfl) ?_ (by constructor); first | exact Jav (JaK hu _ _ _) rfl | exact Jaw (JaK hu _ _ _) rfl)
 ·cases hx; cases hy
  split at h <;> (try (simp at h; done)) <;> (rename_i hu; simp only [Option.some.injEq] at h; subst h; refine one _ (by rw [eqGuard_at_func]; rfl) ?_ (by constructor); first | exact Jav (Jd9 hu _ _ _ _ _) rfl | exact Jaw (Jd9 hu _ _ _ _ _) rfl)
 ·cases hx; cases hy
  split at h <;> (try (simp at h; done)) <;> (rename_i hu; simp only [Option.some.injEq] at h; subst h; refine one _ (by rw [eqGuard_at_iface]; rfl) ?_ (by constructor); first | exact Jav (Jdv hu _ _ _ _) rfl | exact Jaw (Jdv hu _ _ _ _) rfl)
 ·exact fall h
end Go.Vm
