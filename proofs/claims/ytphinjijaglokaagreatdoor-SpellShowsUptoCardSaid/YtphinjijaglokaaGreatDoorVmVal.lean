/- What the evaluator's operations on values say of the model's own. -/
import Derived.Test.YtphinjijaglokaaGreatDoorVmRel
namespace Go.Vm
open Go Go.RowKit
theorem Ja3 {α β : Type} {f : α → Option β} {x : α} {xs : List α} {l : List β} (h : Jd f (x :: xs) = some l) :
  ∃ y ys, f x = some y ∧ Jd f xs = some ys ∧ l = y :: ys := by
 simp only [Jd] at h
 split at h
 ·rename_i y hy
  split at h
  ·rename_i ys hys
   exact ⟨y, ys, hy, hys, by simpa using h.symm⟩
  ·simp at h
 ·simp at h
theorem JcD {g : Gh} {d : Nat} (ih : ∀ (v : V) (c0 c : Value), ofV d v = some c0 → R g v c → c = c0) :
  ∀ (vs : List V) (l l' : List Value), Jd (ofV d) vs = some l → Rs g vs l' → l' = l
 | [], l, l', h, hr => by cases hr; simp [Jd] at h; exact h.symm ▸ rfl
 | v :: vs, l, l', h, hr => by
  obtain ⟨y, ys, h1, h2, rfl⟩ := Ja3 h
  cases hr with
  | cons _ c _ cs hc hcs => rw [ih v y c h1 hc, JcD ih vs ys cs h2 hcs]
theorem Jpc {g : Gh} : ∀ (d : Nat) (v : V) (c0 c : Value), ofV d v = some c0 → R g v c → c = c0 := by
 intro d
 induction d with
 | zero => intro v c0 c h; simp [ofV] at h
 | succ d ih =>
  intro v c0 c h hr
  cases v <;> simp only [ofV] at h <;> try (simp at h; done)
  case bool b => cases hr; simpa using h
  case int k n => cases hr; simpa using h
  case str l => cases hr; simpa using h
  case nilp => cases hr; simpa using h
  case nils => cases hr; simpa using h
  case nilf => cases hr; simpa using h
  case nili => cases hr; simpa using h
  case nilm => cases hr; simpa using h
  case agg cs =>
   cases hr with
   | agg _ l hl =>
    split at h
    ·rename_i l0 h0
     rw [JcD ih cs l0 l h0 hl]
     simpa using h
    ·simp at h
  case tup cs =>
   cases hr with
   | tup _ l hl =>
    split at h
    ·rename_i l0 h0
     rw [JcD ih cs l0 l h0 hl]
     simpa using h
    ·simp at h
  case fn f a b =>
   cases hr with
   | fn _ _ _ la lb ha hb =>
    split at h
    ·rename_i a0 b0 h1 h2
     rw [JcD ih a a0 la h1 ha, JcD ih b b0 lb h2 hb]
     simpa using h
    ·simp at h
  case iface t x =>
   cases hr with
   | iface _ _ y hy =>
    split at h
    ·rename_i x0 h1
     rw [ih x x0 y h1 hy]
     simpa using h
    ·simp at h
theorem JkQ {g : Gh} {d : Nat} {vs : List V} {l l' : List Value} (h : Jd (ofV d) vs = some l) (hr : Rs g vs l') : l' = l :=
 JcD (Jpc d) vs l l' h hr
theorem Jc7 {g : Gh} {d : Nat} (ih : ∀ (c : Value) (v : V), toV d c = some v → R g v c) :
  ∀ (l : List Value) (vs : List V), Jd (toV d) l = some vs → Rs g vs l
 | [], vs, h => by simp [Jd] at h; subst h; exact .nil
 | c :: cs, vs, h => by
  obtain ⟨y, ys, h1, h2, rfl⟩ := Ja3 h
  exact .cons _ _ _ _ (ih c y h1) (Jc7 ih cs ys h2)
theorem JkR {g : Gh} : ∀ (d : Nat) (c : Value) (v : V), toV d c = some v → R g v c := by
 intro d
 induction d with
 | zero => intro c v h; simp [toV] at h
 | succ d ih =>
  intro c v h
  cases c with
  | bool b => simp [toV] at h; subst h; exact .bool _
  | int k n => simp [toV] at h; subst h; exact .int _ _
  | string s =>
   simp only [toV, Option.some.injEq] at h; subst h
   have := R.str (g := g) (S.ofList s.data.toList)
   rwa [S.toList_ofList] at this
  | nilFunc => simp [toV] at h; subst h; exact .nilf
  | nilIface => simp [toV] at h; subst h; exact .nili
  | pointer a => cases a with
   | none => simp [toV] at h; subst h; exact .nilp
   | some a => simp [toV] at h
  | map a => cases a with
   | none => simp [toV] at h; subst h; exact .nilm
   | some a => simp [toV] at h
  | slice a n k => cases a with
   | some a => simp [toV] at h
   | none =>
    simp only [toV] at h
    split at h
    ·rename_i h1 h2
     simp only [Option.some.injEq] at h
     subst h
     have e1 := Nat.eq_of_beq_eq_true h1
     have e2 := Nat.eq_of_beq_eq_true h2
     subst e1 e2
     exact .nils
    ·simp at h
  | agg cs =>
   simp only [toV] at h
   split at h
   ·rename_i l h1
    simp only [Option.some.injEq] at h; subst h
    exact .agg _ cs.toList (Jc7 ih _ _ h1)
   ·simp at h
  | tuple cs =>
   simp only [toV] at h
   split at h
   ·rename_i l h1
    simp only [Option.some.injEq] at h; subst h
    exact .tup _ cs.toList (Jc7 ih _ _ h1)
   ·simp at h
  | func f x y => cases f with
   | func f =>
    simp only [toV] at h
    split at h
    ·rename_i a b h1 h2
     simp only [Option.some.injEq] at h; subst h
     exact .fn _ _ _ x.toList y.toList (Jc7 ih _ _ h1) (Jc7 ih _ _ h2)
    ·simp at h
   | _ => simp [toV] at h
  | iface t x =>
   simp only [toV] at h
   split at h
   ·rename_i y h1
    simp only [Option.some.injEq] at h; subst h
    exact .iface _ _ _ (ih _ _ h1)
   ·simp at h
  | _ => simp [toV] at h
theorem Jj4 {α β : Type} (P : Program) : ∀ (s : Sem α) (f : α → Sem β) (b : β), Q2 P (s >>= f) = some b → ∃ a, Q2 P s = some a ∧ Q2 P (f a) = some b := by
 intro s
 induction s with
 | pure a => intro f b h; exact ⟨a, rfl, h⟩
 | program k ih => intro f b h; exact ih P f b h
 | mark m k ih => intro f b h; exact ih f b h
 | _ => intro f b h; simp [Bind.bind, Sem.bind, Q2] at h
theorem JeX {α : Type} (P : Program) (w : World) : ∀ (s : Sem α) (a : α), Q2 P s = some a → s.run P w = .ok a w := by
 intro s
 induction s with
 | pure a => intro b h; simp [Q2] at h; subst h; rfl
 | program k ih => intro b h; simp only [Q2] at h; exact ih _ _ h
 | mark m k ih => intro b h; simp only [Q2] at h; exact ih _ h
 | _ => intro b h; simp [Q2] at h
theorem JbA {P : Program} {g : Gh} {f : List Value → Sem Value} {vs : List V} {v : V} (h : QQ P f vs = some v) {cs : List Value} (hr : Rs g vs cs) (w : World) :
  ∃ c, (f cs).run P w = .ok c w ∧ R g v c := by
 unfold QQ at h
 split at h
 ·rename_i l hl
  split at h
  ·rename_i c hc
   rw [JkQ hl hr]
   exact ⟨c, JeX P w _ _ hc, JkR 6 _ _ h⟩
  ·simp at h
 ·simp at h
theorem QN [Memo] {g : Gh} {N : Nat} {fr : Fr} {a : Act} (h : FR g N fr a) {x : Operand} {v : V} (hv : ev fr x = some v) : R g v (a.eval x) := by
 cases x with
 | tmp t => simp only [ev, Option.some.injEq] at hv; subst hv; exact h.at_ t
 | const c => exact JkR 4 _ _ hv
 | global n =>
  simp only [ev] at hv
  split at hv
  ·rename_i cs hcs
   simp only [Option.some.injEq] at hv; subst hv
   obtain ⟨l, h1, h2⟩ := h.gl.at_ n cs hcs
   exact .cp cs n 0 l h1 h2
  ·simp at hv
 | func f => simp only [ev, Option.some.injEq] at hv; subst hv; exact .fn _ _ _ _ _ .nil .nil
theorem Jeq [Memo] {g : Gh} {N : Nat} {fr : Fr} {a : Act} (h : FR g N fr a) : ∀ {xs : List Operand} {vs : List V}, evs fr xs = some vs → Rs g vs (xs.map a.eval)
 | [], vs, hv => by simp [evs, Jd] at hv; subst hv; exact .nil
 | x :: xs, vs, hv => by
  obtain ⟨y, ys, h1, h2, rfl⟩ := Ja3 hv
  exact .cons _ _ _ _ (QN h h1) (Jeq h h2)
theorem JiZ {P : Program} {op : BinOp} {t : TypeId} {a b : Value} {w : World} (x y : Operand) (h : (eqGuard op t (.tmp 0) (.tmp 0) a b).run P w = .ok () w) :
  (eqGuard op t x y a b).run P w = .ok () w := by
 unfold eqGuard at h ⊢
 by_cases hop : (match op with | .eql | .neq => true | _ => false) = true
 ·cases a <;> cases b <;> try exact h
  cases op <;> simp at hop <;> cases x <;> cases y <;> simp_all
 ·cases op <;> simp_all
theorem JU {P : Program} {t : TypeId} {z : Nat} (h : Qj P t = some z) (w : World) : (sizeOf t).run P w = .ok z w := by
 unfold Qj at h
 split at h
 ·rename_i i hi
  simp only [Option.some.injEq] at h; subst h
  simp [sizeOf, typeInfo, hi]
 ·simp at h
theorem Jlr {P : Program} {op : BinOp} {t : TypeId} {a b : Value} {w : World} (x y : Operand) (h : (eqGuard op t (opK (isK x || isK y)) (.tmp 0) a b).run P w = .ok () w) :
  (eqGuard op t x y a b).run P w = .ok () w := by
 cases hk : (isK x || isK y) with
 | false => rw [hk] at h; exact JiZ x y h
 | true =>
  rw [hk] at h
  unfold eqGuard at h ⊢
  by_cases hop : (match op with | .eql | .neq => true | _ => false) = true
  ·cases a <;> cases b <;> try exact h
   cases op <;> simp at hop <;> cases x <;> cases y <;> simp_all [isK, opK]
  ·cases op <;> simp_all
theorem Jfh {P : Program} {t : TypeId} {e : TypeId} (hu : P.underlying t = some (.pointer e)) {z : Nat} (hz : Qj P e = some (z + 1)) (d : Nat) (b x y : Nat) (w : World) :
  (Op.equalIn (d + 1) t (.pointer (some ⟨b, x, none⟩)) (.pointer (some ⟨b, y, none⟩))).run P w = .ok (Nat.beq x y) w := by
 have : (Nat.beq x y) = ((⟨b, x, none⟩ : Addr) == ⟨b, y, none⟩) := by
  rw [Bool.eq_iff_iff]
  simp [Nat.beq_eq]
 simp [Op.equalIn, run_underlying hu, sameAddr, this, JU hz]
theorem JaV {P : Program} {t : TypeId} {e : TypeId} (hu : P.underlying t = some (.pointer e)) (d : Nat) (a : Addr) (w : World) : (Op.equalIn (d + 1) t (.pointer none) (.pointer (some a))).run P w = .ok false w := by
 simp [Op.equalIn, run_underlying hu]
theorem Jpd (a b : List UInt8) : ((⟨⟨a⟩⟩ : ByteArray).toList == (⟨⟨b⟩⟩ : ByteArray).toList) = (a == b) := by
 simp [ByteArray.toList_eq]
theorem JbG {P : Program} {t : TypeId} {e : TypeId} (hu : P.underlying t = some (.slice e)) (d : Nat) (a : Addr) (n c m k : Nat) (w : World) : (Op.equalIn (d + 1) t (.slice (some a) n c) (.slice none m k)).run P w = .ok false w := by
 simp [Op.equalIn, run_underlying hu]
theorem Ja9 {P : Program} {t : TypeId} {e : TypeId} (hu : P.underlying t = some (.pointer e)) (d : Nat) (a : Addr) (w : World) : (Op.equalIn (d + 1) t (.pointer (some a)) (.pointer none)).run P w = .ok false w := by
 simp [Op.equalIn, run_underlying hu]
theorem Jer {P : Program} {t : TypeId} {x y : Array TypeId} {z : Bool} (hu : P.underlying t = some (.func x y z)) (d : Nat) (f : Fn) (a b : Array Value) (w : World) : (Op.equalIn (d + 1) t (.func f a b) .nilFunc).run P w = .ok false w := by
 simp [Op.equalIn, run_underlying hu]
theorem JdB {P : Program} {t : TypeId} {x : Array (String × TypeId)} (hu : P.underlying t = some (.interface x)) (d : Nat) (u : TypeId) (v : Value) (w : World) : (Op.equalIn (d + 1) t (.iface u v) .nilIface).run P w = .ok false w := by
 simp [Op.equalIn, run_underlying hu]
theorem JaF {P : Program} {t : TypeId} {x y : Value} {w : World} {b : Bool} (he : (Op.equalIn (9999 + 1) t x y).run P w = .ok b w)
  (hf : binOp .eql t x y = (do pure (.bool (← Op.equalIn (9999 + 1) t x y)))) : (binOp .eql t x y).run P w = .ok (.bool b) w := by
 rw [hf, Sem.run_bind, he]; rfl
theorem JaG {P : Program} {t : TypeId} {x y : Value} {w : World} {b : Bool} (he : (Op.equalIn (9999 + 1) t x y).run P w = .ok b w)
  (hf : binOp .neq t x y = (do pure (.bool (!(← Op.equalIn (9999 + 1) t x y))))) : (binOp .neq t x y).run P w = .ok (.bool !b) w := by
 rw [hf, Sem.run_bind, he]; rfl
theorem Jnc {P : Program} {g : Gh} {op : BinOp} {t : TypeId} {x y v : V} (ox oy : Operand) (h : Jn P (isK ox || isK oy) op t x y = some v) {cx cy : Value} (hx : R g x cx) (hy : R g y cy) (w : World) :
  ∃ c, (do eqGuard op t ox oy cx cy; binOp op t cx cy : Sem Value).run P w = .ok c w ∧ R g v c := by
 have fall : QQ P (fun l => do eqGuard op t (opK (isK ox || isK oy)) (.tmp 0) (l.getD 0 undef) (l.getD 1 undef); binOp op t (l.getD 0 undef) (l.getD 1 undef)) [x, y] = some v →
   ∃ c, (do eqGuard op t ox oy cx cy; binOp op t cx cy : Sem Value).run P w = .ok c w ∧ R g v c := by
  intro h
  unfold QQ at h
  split at h
  ·rename_i l hl
   have e := JkQ hl (.cons _ _ _ _ hx (.cons _ _ _ _ hy .nil))
   subst e
   split at h
   ·rename_i c hc
    obtain ⟨u, h1, h2⟩ := Jj4 P _ _ _ hc
    simp only [List.getD_cons_zero, List.getD_cons_succ] at h1 h2
    refine ⟨c, ?_, JkR 6 _ _ h⟩
    rw [Sem.run_bind, Jlr ox oy (JeX P w _ _ h1)]
    exact JeX P w _ _ h2
   ·simp at h
  ·simp at h
 have direct : QQ P (fun l => binOp op t (l.getD 0 undef) (l.getD 1 undef)) [x, y] = some v → (eqGuard op t ox oy cx cy).run P w = .ok () w →
   ∃ c, (do eqGuard op t ox oy cx cy; binOp op t cx cy : Sem Value).run P w = .ok c w ∧ R g v c := by
  intro h hg
  obtain ⟨c, h1, h2⟩ := JbA h (.cons _ _ _ _ hx (.cons _ _ _ _ hy .nil)) w
  refine ⟨c, ?_, h2⟩
  rw [Sem.run_bind, hg]
  exact h1
 have one : ∀ c, (eqGuard op t ox oy cx cy).run P w = .ok () w → (binOp op t cx cy).run P w = .ok c w → R g v c → ∃ c, (do eqGuard op t ox oy cx cy; binOp op t cx cy : Sem Value).run P w = .ok c w ∧ R g v c := by
  intro c hg hb hr
  refine ⟨c, ?_, hr⟩
  rw [Sem.run_bind, hg]
  exact hb
 unfold Jn at h
 split at h
 ·
  rename_i k a j b
  cases hx; cases hy
  have hg : (eqGuard op t ox oy (.int k a) (.int j b)).run P w = .ok () w := by rw [eqGuard_at_int]; rfl
  split at h
  ·rename_i hk
   have hk : k = j := by simpa using hk
   subst hk
   split at h
   all_goals first
    | exact direct h hg
    | (simp only [Option.some.injEq] at h; subst h; refine one _ hg ?_ (by constructor); simp [go_sem, Op.intArith]; done)
    | (simp only [Option.some.injEq] at h; subst h; refine one _ hg ?_ (by constructor); simp [binOp, Op.intCmp, Op.intArith])
  ·exact direct h hg
 ·
  rename_i a b
  cases hx; cases hy
  have hg : (eqGuard op t ox oy (.string ⟨⟨a.toList⟩⟩) (.string ⟨⟨b.toList⟩⟩)).run P w = .ok () w := by rw [eqGuard_at_string]; rfl
  split at h
  ·split at h
   ·rename_i hle
    simp only [Option.some.injEq] at h; subst h
    have hle' : a.n + b.n ≤ maxStr := Nat.le_of_ble_eq_true hle
    refine one (.string ⟨⟨a.toList ++ b.toList⟩⟩) hg ?_ (by have := R.str (g := g) (a.app b); rwa [S.toList_app] at this)
    have hs : (⟨⟨a.toList⟩⟩ : ByteArray) ++ ⟨⟨b.toList⟩⟩ = ⟨⟨a.toList ++ b.toList⟩⟩ := by
     apply ByteArray.ext
     simp
    have hz : ¬ ((((⟨⟨a.toList⟩⟩ : ByteArray).size + (⟨⟨b.toList⟩⟩ : ByteArray).size : Nat) : Int) > IntKind.i64.max) := by
     have e1 : (⟨⟨a.toList⟩⟩ : ByteArray).size = a.n := a.len
     have e2 : (⟨⟨b.toList⟩⟩ : ByteArray).size = b.n := b.len
     rw [e1, e2, IntKind.max_i64]
     unfold maxStr at hle'
     omega
    simp only [binOp, Op.stringOp]
    rw [if_neg hz, hs]
    rfl
   ·simp at h
  all_goals first
   | (simp at h; done)
   | (simp only [Option.some.injEq] at h; subst h; refine one _ hg ?_ (by constructor); simp [binOp, Op.stringOp, ByteArray.toList_eq, S.same_eq, S.less_eq]; done)
   | (simp only [Option.some.injEq] at h; subst h; refine one _ hg ?_ (by constructor); simp only [binOp, Op.stringOp, Jpd, S.same_eq, S.less_eq]; rfl)
 ·cases hx <;> cases hy <;>
  split at h <;> (try (simp at h; done)) <;> (rename_i hu; simp only [Option.some.injEq] at h; subst h; refine one _ (by rw [eqGuard_at_slice]; rfl) ?_ (by constructor); first | exact JaF (JbG hu _ _ _ _ _ _ _) rfl | exact JaG (JbG hu _ _ _ _ _ _ _) rfl)
 ·cases hx; cases hy
  split at h <;> (try (simp at h; done)) <;> (rename_i hu; simp only [Option.some.injEq] at h; subst h; refine one _ (by rw [eqGuard_at_slice]; rfl) ?_ (by constructor); first | exact JaF (JbG hu _ _ _ _ _ _ _) rfl | exact JaG (JbG hu _ _ _ _ _ _ _) rfl)
 ·cases hx; cases hy
  split at h <;> (try (simp at h; done)) <;> (rename_i hu; simp only [Option.some.injEq] at h; subst h; refine one _ (by rw [eqGuard_at_pointer]; rfl) ?_ (by constructor); first | exact JaF (Ja9 hu _ _ _) rfl | exact JaG (Ja9 hu _ _ _) rfl)
 ·cases hx; cases hy
  split at h <;> (try (simp at h; done)) <;> (rename_i hu; simp only [Option.some.injEq] at h; subst h; refine one _ (by rw [eqGuard_at_pointer]; rfl) ?_ (by constructor); first | exact JaF (Ja9 hu _ _ _) rfl | exact JaG (Ja9 hu _ _ _) rfl)
 ·rename_i i a j b
  split at h
  ·rename_i hij hu
   have hij := Nat.eq_of_beq_eq_true hij
   subst hij
   split at h
   rotate_left
   ·simp at h
   rename_i z hz
   simp only [Option.some.injEq] at h; subst h
   cases hx with
   | ptr _ _ b1 o1 bs1 hb1 =>
   cases hy with
   | ptr _ _ b2 o2 bs2 hb2 =>
   rw [hb1] at hb2
   simp only [Option.some.injEq, Prod.mk.injEq] at hb2
   obtain ⟨rfl, rfl, rfl⟩ := hb2
   have e : Nat.beq a b = Nat.beq (o1 + a) (o1 + b) := by rw [Bool.eq_iff_iff]; simp [Nat.beq_eq]
   exact one _ (by rw [eqGuard_at_pointer]; rfl) (JaF (Jfh hu hz _ _ _ _ _) rfl) (by rw [e]; exact .bool _)
  ·rename_i hij hu
   have hij := Nat.eq_of_beq_eq_true hij
   subst hij
   split at h
   rotate_left
   ·simp at h
   rename_i z hz
   simp only [Option.some.injEq] at h; subst h
   cases hx with
   | ptr _ _ b1 o1 bs1 hb1 =>
   cases hy with
   | ptr _ _ b2 o2 bs2 hb2 =>
   rw [hb1] at hb2
   simp only [Option.some.injEq, Prod.mk.injEq] at hb2
   obtain ⟨rfl, rfl, rfl⟩ := hb2
   have e : Nat.beq a b = Nat.beq (o1 + a) (o1 + b) := by rw [Bool.eq_iff_iff]; simp [Nat.beq_eq]
   exact one _ (by rw [eqGuard_at_pointer]; rfl) (JaG (Jfh hu hz _ _ _ _ _) rfl) (by rw [e]; exact .bool _)
  ·simp at h
 ·cases hx; cases hy
  split at h <;> (try (simp at h; done)) <;> (rename_i hu; simp only [Option.some.injEq] at h; subst h; refine one _ (by rw [eqGuard_at_pointer]; rfl) ?_ (by constructor); first | exact JaF (JaV hu _ _ _) rfl | exact JaG (JaV hu _ _ _) rfl)
 ·cases hx; cases hy
  split at h <;> (try (simp at h; done)) <;> (rename_i hu; simp only [Option.some.injEq] at h; subst h; refine one _ (by rw [eqGuard_at_pointer]; rfl) ?_ (by constructor); first | exact JaF (JaV hu _ _ _) rfl | exact JaG (JaV hu _ _ _) rfl)
 ·cases hx; cases hy
  split at h <;> (try (simp at h; done)) <;> (rename_i hu; simp only [Option.some.injEq] at h; subst h; refine one _ (by rw [eqGuard_at_func]; rfl) ?_ (by constructor); first | exact JaF (Jer hu _ _ _ _ _) rfl | exact JaG (Jer hu _ _ _ _ _) rfl)
 ·cases hx; cases hy
  split at h <;> (try (simp at h; done)) <;> (rename_i hu; simp only [Option.some.injEq] at h; subst h; refine one _ (by rw [eqGuard_at_iface]; rfl) ?_ (by constructor); first | exact JaF (JdB hu _ _ _ _) rfl | exact JaG (JdB hu _ _ _ _) rfl)
 ·exact fall h
end Go.Vm
namespace Go.Vm
open Go Go.RowKit
theorem QY {g : Gh} {v : V} {n : Nat} (h : JaQ v = some n) {c : Value} (hr : R g v c) : ∃ k, c = .int k (n : Int) := by
 cases v <;> simp [JaQ] at h
 rename_i k i
 cases i with
 | ofNat m => simp at h; subst h; cases hr; exact ⟨k, rfl⟩
 | negSucc m => simp at h
inductive ROpt (g : Gh) : Option V → Option Value → Prop
 | none : ROpt g none none
 | some (v : V) (c : Value) (h : R g v c) : ROpt g (some v) (some c)
theorem JhW [Memo] {g : Gh} {N : Nat} {fr : Fr} {a : Act} (h : FR g N fr a) {x : Option Operand} {v : Option V} (hv : JW fr x = some v) : ROpt g v (x.map a.eval) := by
 cases x with
 | none => simp [JW] at hv; subst hv; exact .none
 | some x =>
  simp only [JW] at hv
  split at hv
  ·rename_i u hu
   simp only [Option.some.injEq] at hv; subst hv
   exact .some _ _ (QN h hu)
  ·simp at hv
theorem Qy {P : Program} {w : World} (k : IntKind) (n y : Nat) (code : BoundsCode) (h : n ≤ y) : (Instr.sliceBound (.int k (n : Int)) y code).run P w = .ok n w := by
 have : (0 : Int) ≤ (n : Int) ∧ (n : Int) ≤ (y : Int) := ⟨by omega, by omega⟩
 simp [Instr.sliceBound, asIntOf, this]
theorem Ja8 {P : Program} {w : World} {g : Gh} (isSlice : Bool) {len cap l h : Nat} {lo hi : Option V} {clo chi : Option Value} (hlo : ROpt g lo clo) (hhi : ROpt g hi chi)
  (e1 : QD lo 0 = some l) (e2 : QD hi len = some h) (h1 : l ≤ h) (h2 : h ≤ len) (h3 : len ≤ cap) :
  (Instr.sliceBounds isSlice len cap clo chi none).run P w = .ok (l, h, cap) w := by
 cases hlo with
 | none =>
  simp [QD] at e1; subst e1
  cases hhi with
  | none => simp [QD] at e2; subst e2; simp [Instr.sliceBounds]
  | some v c hv =>
   obtain ⟨k, rfl⟩ := QY e2 hv
   simp [Instr.sliceBounds, Qy k h cap _ (Nat.le_trans h2 h3)]
 | some u d hu =>
  obtain ⟨k, rfl⟩ := QY e1 hu
  cases hhi with
  | none => simp [QD] at e2; subst e2; simp [Instr.sliceBounds, Qy k l _ _ h1]
  | some v c hv =>
   obtain ⟨k', rfl⟩ := QY e2 hv
   simp [Instr.sliceBounds, Qy k l _ _ h1, Qy k' h cap _ (Nat.le_trans h2 h3)]
theorem JdA (l : List UInt8) (i j : Nat) : (⟨⟨l⟩⟩ : ByteArray).extract i j = ⟨⟨(l.drop i).take (j - i)⟩⟩ := by
 apply ByteArray.ext
 simp
theorem Jav {a b : Bool} (h : (a && b) = true) : a = true ∧ b = true := by simpa using h
theorem Jj0 {g : Gh} {id off z : Nat} {cap' : Option Nat} {b o bs co c l h m : Nat} (hb : g.box id = some (b, o, bs)) (ho : c = 0 ∨ co = o + off) (hlh : l ≤ h) (hhm : h ≤ m) (hmc : m ≤ c)
  (hk : capOk cap' (o + (off + l * z)) (m - l) z bs) :
  R g (.ms id (off + l * z) (h - l) z cap') (.slice (if m = l then some ⟨b, co, none⟩ else some ⟨b, co + l * z, none⟩) (h - l) (m - l)) := by
 by_cases hml : m = l
 ·rw [if_pos hml]
  exact .ms _ _ _ _ _ b o bs co _ hb (by omega) (.inl (by omega)) hk
 ·rw [if_neg hml]
  refine .ms _ _ _ _ _ b o bs _ _ hb (by omega) ?_ hk
  rcases ho with ho | ho
  ·exact absurd (show m = l by omega) hml
  ·exact .inr (by omega)
theorem capOk.sub {cap : Option Nat} {o off c z bs : Nat} (hk : capOk cap (o + off) c z bs) {l : Nat} (hl : l ≤ c) : capOk (JeS cap l) (o + (off + l * z)) (c - l) z bs := by
 cases cap with
 | some k => show c - l = Nat.sub k l; have : c = k := hk; rw [this]; rfl
 | none =>
  show o + (off + l * z) + (c - l) * z = bs
  have hk : o + off + c * z = bs := hk
  have : l * z + (c - l) * z = c * z := by rw [← Nat.add_mul]; congr 1; omega
  omega
theorem JiV {cap : Option Nat} {q c z bs n h : Nat} (hk : capOk cap q c z bs) (hn : n ≤ c) (hh : Jdy h n cap = true) : h ≤ c := by
 cases cap with
 | some k => have : c = k := hk; have := Nat.le_of_ble_eq_true hh; omega
 | none => have := Nat.le_of_ble_eq_true hh; omega
theorem Jbz {P : Program} {w : World} {g : Gh} (isSlice : Bool) {len cap l h : Nat} {lo hi : Option V} {clo chi : Option Value} (hlo : ROpt g lo clo) (hhi : ROpt g hi chi)
  (e1 : QD lo 0 = some l) (e2 : QD hi len = some h) (h1 : l ≤ h) (h2 : h ≤ cap) :
  (Instr.sliceBounds isSlice len cap clo chi none).run P w = .ok (l, h, cap) w := by
 cases hlo with
 | none =>
  simp [QD] at e1; subst e1
  cases hhi with
  | none => simp [QD] at e2; subst e2; simp [Instr.sliceBounds]
  | some v c hv =>
   obtain ⟨k, rfl⟩ := QY e2 hv
   simp [Instr.sliceBounds, Qy k h cap _ h2]
 | some u d hu =>
  obtain ⟨k, rfl⟩ := QY e1 hu
  cases hhi with
  | none => simp [QD] at e2; subst e2; simp [Instr.sliceBounds, Qy k l _ _ h1]
  | some v c hv =>
   obtain ⟨k', rfl⟩ := QY e2 hv
   simp [Instr.sliceBounds, Qy k l _ _ h1, Qy k' h cap _ h2]
theorem Jj1 {P : Program} {g : Gh} {t : TypeId} {x v : V} {lo hi : Option V} {cx : Value} {clo chi : Option Value} (h : Jan P t x lo hi = some v)
  (hx : R g x cx) (hlo : ROpt g lo clo) (hhi : ROpt g hi chi) (w : World) : ∃ c, (Instr.sliceAt t cx clo chi none).run P w = .ok c w ∧ R g v c := by
 unfold Jan at h
 split at h
 ·
  rename_i s hu
  cases hx
  split at h
  ·rename_i l hh e1 e2
   split at h
   ·rename_i hb
    obtain ⟨b1, b2⟩ := Jav hb
    have b1 := Nat.le_of_ble_eq_true b1
    have b2 := Nat.le_of_ble_eq_true b2
    simp only [Option.some.injEq] at h; subst h
    refine ⟨.string ⟨⟨(s.toList.drop l).take (hh - l)⟩⟩, ?_, by have := R.str (g := g) (s.cut l hh); rwa [S.toList_cut s b1 b2] at this⟩
    have hs : (⟨⟨s.toList⟩⟩ : ByteArray).size = s.n := s.len
    simp [Instr.sliceAt, run_underlying hu, Instr.slice, hs, Ja8 false hlo hhi e1 e2 b1 b2 (Nat.le_refl _), JdA]
   ·simp at h
  ·simp at h
 ·
  rename_i n cs ex e hu
  cases hx with
  | sl _ _ _ b o cap l0 hr hp hc ht =>
   split at h
   ·rename_i l hh z e1 e2 e3
    split at h
    ·rename_i hb
     obtain ⟨b12, b3⟩ := Jav hb
     obtain ⟨b1, b2⟩ := Jav b12
     have b1 := Nat.le_of_ble_eq_true b1
     have b2 := Nat.le_of_ble_eq_true b2
     have b3 := Nat.eq_of_beq_eq_true b3
     simp only [Option.some.injEq] at h; subst h
     refine ⟨.slice (if cap = l then some ⟨b, o, none⟩ else some ⟨b, o + l * z, none⟩) (hh - l) (cap - l), ?_, ?_⟩
     ·simp [Instr.sliceAt, run_underlying hu, Instr.slice, Ja8 true hlo hhi e1 e2 b1 b2 hc, JU e3, Addr.add_lit]
     ·have hex : (ex && Nat.beq hh n) = true → cap - l = hh - l := fun hx => by
       obtain ⟨x1, x2⟩ := Jav hx
       have := ht x1
       have := Nat.eq_of_beq_eq_true x2
       omega
      by_cases hcl : cap = l
      ·have e0 : hh - l = 0 := by omega
       rw [if_pos hcl]
       simp only [e0, Nat.zero_mul] at hex ⊢
       exact .sl _ _ _ b o _ [] (by simpa [Vm.sub] using Rs.nil) (fun i c hi => by simp at hi) (by omega) hex
      ·rw [if_neg hcl]
       exact .sl _ _ _ b (o + l * z) _ ((l0.drop (l * z)).take ((hh - l) * z)) (hr.sub _ _) ((hp.drop _).take _) (by omega) hex
    ·simp at h
   ·simp at h
  | sl0 _ a cap he =>
   split at h
   ·rename_i l hh z e1 e2 e3
    split at h
    ·rename_i hb
     obtain ⟨b12, b3⟩ := Jav hb
     obtain ⟨b1, b2⟩ := Jav b12
     have b1 := Nat.le_of_ble_eq_true b1
     have b2 := Nat.le_of_ble_eq_true b2
     simp only [Option.some.injEq] at h; subst h
     obtain rfl : l = 0 := by omega
     obtain rfl : hh = 0 := by omega
     refine ⟨.slice (some a) 0 cap, ?_, by simpa [Vm.sub] using R.sl0 (g := g) ex a cap he⟩
     simp [Instr.sliceAt, run_underlying hu, Instr.slice, Ja8 true hlo hhi e1 e2 b1 b2 (Nat.zero_le cap), JU e3, Addr.add]
    ·simp at h
   ·simp at h
 ·
  rename_i id off n z cap e hu
  cases hx with
  | ms _ _ _ _ _ b o bs co c hb0 hc ho hk =>
   split at h
   ·rename_i l hh z' e1 e2 e3
    split at h
    ·rename_i hb
     obtain ⟨b12, b3⟩ := Jav hb
     obtain ⟨b1, b2⟩ := Jav b12
     have b1 := Nat.le_of_ble_eq_true b1
     have b2 := JiV hk hc b2
     have b3 := Nat.eq_of_beq_eq_true b3
     subst b3
     simp only [Option.some.injEq] at h; subst h
     refine ⟨.slice (if c = l then some ⟨b, co, none⟩ else some ⟨b, co + l * z, none⟩) (hh - l) (c - l), ?_, Jj0 hb0 ho b1 b2 (Nat.le_refl _) (hk.sub (by omega))⟩
     simp [Instr.sliceAt, run_underlying hu, Instr.slice, Jbz true hlo hhi e1 e2 b1 b2, JU e3, Addr.add_lit]
    ·simp at h
   ·simp at h
 ·
  rename_i e hu
  cases hx
  split at h
  ·rename_i z e1 e2 e3
   simp only [Option.some.injEq] at h; subst h
   refine ⟨.slice none 0 0, ?_, .nils⟩
   simp [Instr.sliceAt, run_underlying hu, Instr.slice, Ja8 true hlo hhi e1 e2 (Nat.le_refl _) (Nat.le_refl _) (Nat.le_refl _), JU e3]
  ·simp at h
 ·
  rename_i id off n e hu
  cases hx with
  | ptr _ _ b o bs hb0 =>
   split at h
   ·rename_i l hh z e1 e2 e3
    split at h
    ·rename_i hb
     obtain ⟨b1, b2⟩ := Jav hb
     have b1 := Nat.le_of_ble_eq_true b1
     have b2 := Nat.le_of_ble_eq_true b2
     simp only [Option.some.injEq] at h; subst h
     refine ⟨.slice (if n = l then some ⟨b, o + off, none⟩ else some ⟨b, o + off + l * z, none⟩) (hh - l) (n - l), ?_, Jj0 hb0 (.inr rfl) b1 b2 (Nat.le_refl _) (by show n - l = n - l; rfl)⟩
     simp [Instr.sliceAt, run_underlying hu, Instr.sureAddr, Jbz false hlo hhi e1 e2 b1 b2, JU e3, Addr.add_lit]
     split <;> rfl
    ·simp at h
   ·simp at h
 ·
  rename_i cs n e hu
  cases hx with
  | cp _ b o l0 hr hp =>
   split at h
   ·rename_i l hh z e1 e2 e3
    split at h
    ·rename_i hb
     obtain ⟨b12, b3⟩ := Jav hb
     obtain ⟨b1, b2⟩ := Jav b12
     have b1 := Nat.le_of_ble_eq_true b1
     have b2 := Nat.le_of_ble_eq_true b2
     simp only [Option.some.injEq] at h; subst h
     refine ⟨.slice (if n = l then some ⟨b, o, none⟩ else some ⟨b, o + l * z, none⟩) (hh - l) (n - l), ?_, ?_⟩
     ·simp [Instr.sliceAt, run_underlying hu, Instr.sureAddr, Jbz false hlo hhi e1 e2 b1 b2, JU e3, Addr.add_lit]
      split <;> rfl
     ·have hex : (Nat.beq hh n) = true → n - l = hh - l := fun hx => by
       have := Nat.eq_of_beq_eq_true hx
       omega
      by_cases hcl : n = l
      ·have e0 : hh - l = 0 := by omega
       rw [if_pos hcl]
       simp only [e0, Nat.zero_mul] at hex ⊢
       exact .sl _ _ _ b o _ [] (by simpa [Vm.sub] using Rs.nil) (fun i c hi => by simp at hi) (by omega) hex
      ·rw [if_neg hcl]
       exact .sl _ _ _ b (o + l * z) _ ((l0.drop (l * z)).take ((hh - l) * z)) (hr.sub _ _) ((hp.drop _).take _) (by omega) hex
    ·simp at h
   ·simp at h
 ·simp at h
theorem JaU {P : Program} {w : World} {g : Gh} {len cap l h m : Nat} {lo : Option V} {clo : Option Value} (hlo : ROpt g lo clo) (kh km : IntKind)
  (e1 : QD lo 0 = some l) (h1 : l ≤ h) (h2 : h ≤ m) (h3 : m ≤ cap) :
  (Instr.sliceBounds true len cap clo (some (.int kh (h : Int))) (some (.int km (m : Int)))).run P w = .ok (l, h, m) w := by
 cases hlo with
 | none =>
  simp [QD] at e1; subst e1
  simp [Instr.sliceBounds, Qy km m cap _ h3, Qy kh h m _ h2]
 | some u d hu =>
  obtain ⟨k, rfl⟩ := QY e1 hu
  simp [Instr.sliceBounds, Qy km m cap _ h3, Qy kh h m _ h2, Qy k l h _ h1]
theorem JiW {P : Program} {g : Gh} {t : TypeId} {x v : V} {lo : Option V} {hi mx : V} {cx : Value} {clo : Option Value} {chi cmx : Value} (h : JaS P t x lo hi mx = some v)
  (hx : R g x cx) (hlo : ROpt g lo clo) (hhi : R g hi chi) (hmx : R g mx cmx) (w : World) : ∃ c, (Instr.sliceAt t cx clo (some chi) (some cmx)).run P w = .ok c w ∧ R g v c := by
 unfold JaS at h
 split at h
 ·rename_i id off n z cap e m hu hm
  obtain ⟨km, rfl⟩ := QY hm hmx
  cases hx with
  | ms _ _ _ _ _ b o bs co c hb0 hc ho hk =>
   split at h
   ·rename_i l hh z' e1 e2 e3
    obtain ⟨kh, rfl⟩ := QY e2 hhi
    split at h
    ·rename_i hb
     obtain ⟨b123, b3⟩ := Jav hb
     obtain ⟨b12, b2⟩ := Jav b123
     obtain ⟨b0, b1⟩ := Jav b12
     have b0 := Nat.le_of_ble_eq_true b0
     have b1 := Nat.le_of_ble_eq_true b1
     have b2 := JiV hk hc b2
     have b3 := Nat.eq_of_beq_eq_true b3
     subst b3
     simp only [Option.some.injEq] at h; subst h
     refine ⟨.slice (if m = l then some ⟨b, co, none⟩ else some ⟨b, co + l * z, none⟩) (hh - l) (m - l), ?_, Jj0 hb0 ho b1 b0 b2 (by show m - l = m - l; rfl)⟩
     simp [Instr.sliceAt, run_underlying hu, Instr.slice, JaU hlo kh km e1 b1 b0 b2, JU e3, Addr.add_lit]
    ·simp at h
   ·simp at h
 ·rename_i e hu hm
  obtain ⟨km, rfl⟩ := QY hm hmx
  cases hx
  split at h
  ·rename_i z e1 e2 e3
   obtain ⟨kh, rfl⟩ := QY e2 hhi
   simp only [Option.some.injEq] at h; subst h
   refine ⟨.slice none 0 0, ?_, .nils⟩
   have q := JaU (P := P) (w := w) (len := 0) hlo kh km e1 (Nat.le_refl 0) (Nat.le_refl 0) (Nat.le_refl 0)
   simp only [Int.cast_ofNat_Int] at q
   simp [Instr.sliceAt, run_underlying hu, Instr.slice, q, JU e3]
  ·simp at h
 ·rename_i n cs ex0 e m hu hm
  obtain ⟨km, rfl⟩ := QY hm hmx
  cases hx with
  | sl _ _ _ b o cap l0 hr hp hc ht =>
   split at h
   ·rename_i l hh z e1 e2 e3
    obtain ⟨kh, rfl⟩ := QY e2 hhi
    split at h
    ·rename_i hb
     obtain ⟨b123, b3⟩ := Jav hb
     obtain ⟨b12, b2⟩ := Jav b123
     obtain ⟨b0, b1⟩ := Jav b12
     have b0 := Nat.le_of_ble_eq_true b0
     have b1 := Nat.le_of_ble_eq_true b1
     have b2 := Nat.le_of_ble_eq_true b2
     simp only [Option.some.injEq] at h; subst h
     refine ⟨.slice (if m = l then some ⟨b, o, none⟩ else some ⟨b, o + l * z, none⟩) (hh - l) (m - l), ?_, ?_⟩
     ·simp [Instr.sliceAt, run_underlying hu, Instr.slice, JaU hlo kh km e1 b1 b0 (Nat.le_trans b2 hc), JU e3, Addr.add_lit]
     ·have hex : Nat.beq hh m = true → m - l = hh - l := fun hx => by
       have := Nat.eq_of_beq_eq_true hx
       omega
      by_cases hcl : m = l
      ·have e0 : hh - l = 0 := by omega
       rw [if_pos hcl]
       simp only [e0, Nat.zero_mul] at hex ⊢
       exact .sl _ _ _ b o _ [] (by simpa [Vm.sub] using Rs.nil) (fun i c hi => by simp at hi) (by omega) hex
      ·rw [if_neg hcl]
       exact .sl _ _ _ b (o + l * z) _ ((l0.drop (l * z)).take ((hh - l) * z)) (hr.sub _ _) ((hp.drop _).take _) (by omega) hex
    ·simp at h
   ·simp at h
  | sl0 _ a cap he =>
   split at h
   ·rename_i l hh z e1 e2 e3
    obtain ⟨kh, rfl⟩ := QY e2 hhi
    split at h
    ·rename_i hb
     obtain ⟨b123, b3⟩ := Jav hb
     obtain ⟨b12, b2⟩ := Jav b123
     obtain ⟨b0, b1⟩ := Jav b12
     have b0 := Nat.le_of_ble_eq_true b0
     have b1 := Nat.le_of_ble_eq_true b1
     have b2 := Nat.le_of_ble_eq_true b2
     simp only [Option.some.injEq] at h; subst h
     obtain rfl : m = 0 := by omega
     obtain rfl : hh = 0 := by omega
     obtain rfl : l = 0 := by omega
     refine ⟨.slice (some a) 0 0, ?_, by simpa [Vm.sub] using R.sl0 (g := g) true a 0 (fun _ => rfl)⟩
     have q := JaU (P := P) (w := w) (len := 0) (cap := cap) hlo kh km e1 (Nat.le_refl 0) (Nat.le_refl 0) (Nat.zero_le cap)
     simp only [Int.cast_ofNat_Int] at q
     simp [Instr.sliceAt, run_underlying hu, Instr.slice, q, JU e3, Addr.add]
    ·simp at h
   ·simp at h
 ·simp at h
end Go.Vm
namespace Go.Vm
open Go Go.RowKit
theorem Jde {P : Program} {t : TypeId} {b : Bool} (h : Jag P t = some b) (w : World) : (isAgg t).run P w = .ok b w := by
 unfold Jag at h
 split at h
 ·rename_i fs hu; simp at h; subst h; simp [isAgg, run_underlying hu]
 ·rename_i n e hu; simp at h; subst h; simp [isAgg, run_underlying hu]
 ·rename_i d hu1 hu2 hu
  simp at h; subst h
  cases d <;> simp_all [isAgg, run_underlying hu]
 ·simp at h
theorem Rs.get' {g : Gh} {vs : List V} {cs : List Value} (h : Rs g vs cs) {i : Nat} {v : V} (hv : vs[i]? = some v) : ∃ c, cs[i]? = some c ∧ R g v c := h.get i v hv
theorem JgW {P : Program} {g : Gh} {t : TypeId} {cs : List V} {off : Nat} {v : V} (h : Jbp P t cs off = some v) {l : List Value} (hr : Rs g cs l) (w : World) :
  ∃ c, (part t ⟨l⟩ off).run P w = .ok c w ∧ R g v c := by
 unfold Jbp at h
 split at h
 ·rename_i n h1 h2
  split at h
  ·simp only [Option.some.injEq] at h; subst h
   refine ⟨.agg ⟨(l.drop off).take n⟩, ?_, .agg _ _ (hr.sub _ _)⟩
   simp [part, Jde h1, JU h2]
  ·simp at h
 ·rename_i n h1 h2
  obtain ⟨c, hc, hv⟩ := hr.get' h
  refine ⟨c, ?_, hv⟩
  simp [part, Jde h1, hc]
 ·simp at h
theorem JfL {P : Program} {g : Gh} {t : TypeId} {cs : List V} {off : Nat} {v : V} (h : Jbp P t cs off = some v) {l : List Value} (hr : Rs g cs l) {w : World} {b o : Nat}
  (hw : ∀ i c, l[i]? = some c → w.cell? ⟨b, o + i, none⟩ = some c) : ∃ c, (loadVar t ⟨b, o + off, none⟩).run P w = .ok c w ∧ R g v c := by
 unfold Jbp at h
 split at h
 ·rename_i n h1 h2
  split at h
  ·rename_i hle
   have hle := Nat.le_of_ble_eq_true hle
   simp only [Option.some.injEq] at h; subst h
   have hlen := hr.len
   refine ⟨.agg ⟨(l.drop off).take n⟩, ?_, .agg _ _ (hr.sub _ _)⟩
   have hl : ((l.drop off).take n).length = n := by
    rw [List.length_take, List.length_drop]; omega
   have := run_loadCells_list (P := P) (w := w) ⟨b, o + off, none⟩ ((l.drop off).take n) (fun j c hj => by
    rw [List.getElem?_take] at hj
    split at hj
    ·rw [List.getElem?_drop] at hj
     rw [Addr.add_lit, Nat.add_assoc]
     exact hw _ _ hj
    ·simp at hj)
   rw [hl] at this
   simp [loadVar, Jde h1, JU h2, this]
  ·simp at h
 ·rename_i n h1 h2
  obtain ⟨c, hc, hv⟩ := hr.get' h
  refine ⟨c, ?_, hv⟩
  simp [loadVar, Jde h1, hw _ _ hc]
 ·simp at h
theorem JlN {α : Type} (pre mid rest : List α) {o : Nat} (ho : pre.length = o) {j : Nat} {c : α} (hj : mid[j]? = some c) : (pre ++ mid ++ rest)[o + j]? = some c := by
 have hl := (List.getElem?_eq_some_iff.1 hj).1
 rw [List.append_assoc, List.getElem?_append_right (by omega), ho, Nat.add_sub_cancel_left, List.getElem?_append_left hl]
 exact hj
theorem Inv.cells {base : Nat} {g : Gh} {s : SS} {w : World} (hi : Inv base g s w) {i : Nat} {cs : List V} {e : TypeId} {fl : Bool} {fz : Option Nat} (h : s.box i = some (.cells cs e fl fz)) {b o bs : Nat} (hb : g.box i = some (b, o, bs)) :
  ∃ pre mid rest f, w.heap[b]? = some (.cells ⟨pre ++ mid ++ rest⟩ e f) ∧ pre.length = o ∧ Rs g cs mid ∧ (pre ++ mid ++ rest).length = bs ∧ (fl = true → o = 0 ∧ rest = []) ∧ fzR fz o bs f ∧
   ∀ j c, mid[j]? = some c → w.cell? ⟨b, o + j, none⟩ = some c := by
 obtain ⟨b', o', bs', m, h1, h2, h3⟩ := hi.box i _ h
 have e1 : (b', o', bs') = (b, o, bs) := by rw [h1] at hb; simpa using hb
 simp only [Prod.mk.injEq] at e1
 obtain ⟨rfl, rfl, rfl⟩ := e1
 cases h3 with
 | cells _ _ _ _ pre mid rest f ho hr hs hf hz =>
  refine ⟨pre, mid, rest, f, h2, ho, hr, hs, hf, hz, fun j c hj => ?_⟩
  have := JlN pre mid rest ho hj
  simp [World.cell?, h2] at this ⊢
  exact this
theorem JgX {P : Program} {base : Nat} {g : Gh} {st : St} {w : World} (hi : Inv base g st.abs w) {t : TypeId} {x v : V} (h : Qe P st t x = some v) {c : Value} (hx : R g x c) :
  ∃ d, (Instr.loadAt t c).run P w = .ok d w ∧ R g v d := by
 unfold Qe at h
 split at h
 ·rename_i cs
  cases hx with
  | cp _ b o l hr hp =>
   obtain ⟨d, h1, h2⟩ := JfL h hr (w := w) (b := b) (o := o) (fun i c hc => hi.pub _ _ _ (hp i c hc))
   exact ⟨d, by simpa [Instr.loadAt, Instr.sureAddr] using h1, h2⟩
 ·rename_i id off
  cases hx with
  | ptr _ _ b o bs hb =>
   split at h
   ·rename_i cs e fl fz hcs
    obtain ⟨pre, mid, rest, f, _, _, hr, _, _, _, hw⟩ := hi.cells (i := id) hcs hb
    obtain ⟨d, h1, h2⟩ := JfL h hr (w := w) (b := b) (o := o) hw
    exact ⟨d, by simpa [Instr.loadAt, Instr.sureAddr] using h1, h2⟩
   ·simp at h
 ·simp at h
theorem JfM {P : Program} {g : Gh} {t : TypeId} {x i v : V} (h : Jo P t x i = some v) {cx ci : Value} (hx : R g x cx) (hi : R g i ci) (w : World) :
  ∃ c, (Instr.indexAt t cx ci).run P w = .ok c w ∧ R g v c := by
 unfold Jo at h
 split at h
 ·rename_i n cs tl e i hu hn
  obtain ⟨k, rfl⟩ := QY hn hi
  split at h
  ·rename_i z hz hlt
   have hlt : i < n := by simpa [Nat.blt_eq] using hlt
   simp only [Option.some.injEq] at h; subst h
   cases hx with
   | sl _ _ _ b o cap l hr hp hc ht =>
    refine ⟨.pointer (some ⟨b, o + i * z, none⟩), ?_, .cp _ b _ (l.drop (i * z)) (hr.drop _) (hp.drop _)⟩
    have h0 : (0 : Int) ≤ (i : Int) ∧ (i : Int) < (n : Int) := ⟨by omega, by omega⟩
    simp [Instr.indexAt, asIntOf, run_underlying hu, h0, JU hz, Addr.add_lit, hlt]
   | sl0 _ a cap _ => exact absurd hlt (Nat.not_lt_zero _)
  ·simp at h
 ·rename_i id off n z cap e i hu hn
  obtain ⟨k, rfl⟩ := QY hn hi
  split at h
  ·rename_i z' hz hlt
   split at h
   rotate_left
   ·simp at h
   rename_i hbz
   have hbz := Nat.eq_of_beq_eq_true hbz
   subst hbz
   have hlt : i < n := by simpa [Nat.blt_eq] using hlt
   simp only [Option.some.injEq] at h; subst h
   cases hx with
   | ms _ _ _ _ _ b o bs co c hb hc ho hk =>
    have hco : co = o + off := by rcases ho with ho | ho <;> omega
    subst hco
    refine ⟨.pointer (some ⟨b, o + (off + i * z'), none⟩), ?_, .ptr _ _ b o bs hb⟩
    have h0 : (0 : Int) ≤ (i : Int) ∧ (i : Int) < (n : Int) := ⟨by omega, by omega⟩
    simp [Instr.indexAt, asIntOf, run_underlying hu, h0, JU hz, Addr.add_lit, hlt, Nat.add_assoc]
  ·simp at h
 ·rename_i id off n e i hu hn
  obtain ⟨k, rfl⟩ := QY hn hi
  split at h
  ·rename_i z hz hlt
   have hlt : i < n := by simpa [Nat.blt_eq] using hlt
   simp only [Option.some.injEq] at h; subst h
   cases hx with
   | ptr _ _ b o bs hb =>
    refine ⟨.pointer (some ⟨b, o + (off + i * z), none⟩), ?_, .ptr _ _ b o bs hb⟩
    have h0 : (0 : Int) ≤ (i : Int) ∧ (i : Int) < (n : Int) := ⟨by omega, by omega⟩
    simp [Instr.indexAt, asIntOf, run_underlying hu, h0, JU hz, Addr.add_lit, Instr.sureAddr, hlt, Nat.add_assoc]
  ·simp at h
 ·rename_i cs n e i hu hn
  obtain ⟨k, rfl⟩ := QY hn hi
  split at h
  ·rename_i z hz hlt
   have hlt : i < n := by simpa [Nat.blt_eq] using hlt
   simp only [Option.some.injEq] at h; subst h
   cases hx with
   | cp _ b o l hr hp =>
    refine ⟨.pointer (some ⟨b, o + i * z, none⟩), ?_, .cp _ b _ (l.drop (i * z)) (hr.drop _) (hp.drop _)⟩
    have h0 : (0 : Int) ≤ (i : Int) ∧ (i : Int) < (n : Int) := ⟨by omega, by omega⟩
    simp [Instr.indexAt, asIntOf, run_underlying hu, h0, JU hz, Addr.add_lit, Instr.sureAddr, hlt]
  ·simp at h
 ·simp at h
theorem Jjq {P : Program} {g : Gh} {t : TypeId} {x i v : V} (h : Jao P t x i = some v) {cx ci : Value} (hx : R g x cx) (hi : R g i ci) (w : World) :
  ∃ c, (Instr.index t cx ci).run P w = .ok c w ∧ R g v c := by
 unfold Jao at h
 split at h
 ·rename_i s i hu hn
  obtain ⟨k, rfl⟩ := QY hn hi
  cases hx
  split at h
  ·rename_i hb
   have hb : i < s.n := by simpa [Nat.blt_eq] using hb
   have hb := s.toList_at hb
   simp only [Option.some.injEq] at h; subst h
   refine ⟨.int .u8 (.ofNat (s.at i)), ?_, .int _ _⟩
   have hb' : (⟨⟨s.toList⟩⟩ : ByteArray)[i]? = some (UInt8.ofNat (s.at i)) := by
    obtain ⟨hlt, he⟩ := List.getElem?_eq_some_iff.1 hb
    have h2 : i < (⟨⟨s.toList⟩⟩ : ByteArray).size := hlt
    rw [getElem?_pos _ i h2]
    congr 1
   have hm : (s.at i) % 256 = s.at i := Nat.mod_eq_of_lt (s.at_lt i)
   simp [Instr.index, asIntOf, run_underlying hu, hb', hm]
  ·simp at h
 ·rename_i cs n e i hu hn
  obtain ⟨k, rfl⟩ := QY hn hi
  split at h
  ·rename_i z hz hlt
   have hlt : i < n := by simpa [Nat.blt_eq] using hlt
   cases hx with
   | agg _ l hr =>
    obtain ⟨c, h1, h2⟩ := JgW h hr w
    refine ⟨c, ?_, h2⟩
    simp [Instr.index, asIntOf, run_underlying hu, hlt, JU hz, h1]
  ·simp at h
 ·simp at h
theorem JlO {P : Program} {g : Gh} {t : TypeId} {x v : V} (h : Jab P t x = some v) {cx : Value} (hx : R g x cx) (ts : Array TypeId) (ht : ts[0]? = some t) (ty : TypeId) (w : World) :
    ∃ c, (Builtin.len_ ts ty #[cx]).run P w = .ok c w ∧ R g v c := by
  unfold Jab at h
  split at h
  · rename_i s hu; cases hx
    simp only [Option.some.injEq] at h; subst h
    refine ⟨_, ?_, .int _ _⟩
    have e : (⟨⟨s.toList⟩⟩ : ByteArray).size = s.n := s.len
    simp [Builtin.len_, ht, run_underlying hu, goInt, e]
  · rename_i e hu; cases hx
    simp only [Option.some.injEq] at h; subst h
    refine ⟨_, ?_, .int _ _⟩
    simp [Builtin.len_, ht, run_underlying hu, goInt]
  · rename_i n cs tl e hu; cases hx <;>
    (simp only [Option.some.injEq] at h; subst h
     refine ⟨_, ?_, .int _ _⟩
     simp [Builtin.len_, ht, run_underlying hu, goInt])
  · rename_i n z cap e hu; cases hx
    simp only [Option.some.injEq] at h; subst h
    refine ⟨_, ?_, .int _ _⟩
    simp [Builtin.len_, ht, run_underlying hu, goInt]
  · rename_i n e hu
    simp only [Option.some.injEq] at h; subst h
    refine ⟨.int .i64 n, ?_, .int _ _⟩
    simp [Builtin.len_, ht, run_underlying hu, goInt]
  · simp at h
theorem JfN {P : Program} {g : Gh} {s : TypeId} {x v : V} {f : Nat} (h : QK P s x f = some v) {cx : Value} (hx : R g x cx) (w : World) :
  ∃ c, (Instr.fieldAt s cx f).run P w = .ok c w ∧ R g v c := by
 unfold QK at h
 split at h
 ·rename_i fs hu
  split at h
  ·rename_i fd hf
   split at h
   ·rename_i z hz
    split at h
    ·rename_i id off
     cases hx with
     | ptr _ _ b o bs hb =>
      simp only [Option.some.injEq] at h; subst h
      refine ⟨_, ?_, .ptr _ _ b o bs hb⟩
      simp [Instr.fieldAt, run_underlying hu, hf, Instr.sureAddr, fieldPlace, JU hz, Addr.add_lit, Nat.add_assoc]
    ·rename_i cs
     cases hx with
     | cp _ b o l hr hp =>
      simp only [Option.some.injEq] at h; subst h
      refine ⟨_, ?_, .cp _ b (o + fd.offset) (l.drop fd.offset) (hr.drop _) (hp.drop _)⟩
      simp [Instr.fieldAt, run_underlying hu, hf, Instr.sureAddr, fieldPlace, JU hz, Addr.add_lit]
    ·simp at h
   ·simp at h
  ·simp at h
 ·simp at h
theorem Jjr {P : Program} {g : Gh} {s : TypeId} {x v : V} {f : Nat} (h : JjS P s x f = some v) {cx : Value} (hx : R g x cx) (w : World) :
  ∃ c, (Instr.field s cx f).run P w = .ok c w ∧ R g v c := by
 unfold JjS at h
 split at h
 ·rename_i cs fs hu
  split at h
  ·rename_i fd hf
   cases hx with
   | agg _ l hr =>
    obtain ⟨c, h1, h2⟩ := JgW h hr w
    refine ⟨c, ?_, h2⟩
    simp [Instr.field, run_underlying hu, hf, asAgg, h1]
  ·simp at h
 ·simp at h
end Go.Vm
namespace Go.Vm
open Go Go.RowKit
inductive Lies (w : World) : Value → Nat → List Value → Prop
 | none (c : Nat) : Lies w (.slice none 0 c) 0 []
 | some (a : Addr) (n c : Nat) (l : List Value) (h : ∀ j v, l[j]? = some v → w.cell? (a.add j) = some v) : Lies w (.slice (some a) n c) n l
theorem JcS {base : Nat} {g : Gh} {st : St} {w : World} (hi : Inv base g st.abs w) {z : Nat} {x : V} {cs : List V} {n : Nat} (h : JP st z x = some (cs, n)) {c : Value} (hx : R g x c) :
  ∃ l, Rs g cs l ∧ l.length = n * z ∧ Lies w c n l := by
 unfold JP at h
 split at h
 ·cases hx
  simp only [Option.some.injEq, Prod.mk.injEq] at h
  obtain ⟨rfl, rfl⟩ := h
  exact ⟨[], .nil, by simp, .none _⟩
 ·rename_i n' cs' ex
  split at h
  ·rename_i hb
   have hb := Nat.eq_of_beq_eq_true hb
   simp only [Option.some.injEq, Prod.mk.injEq] at h
   obtain ⟨rfl, rfl⟩ := h
   cases hx with
   | sl _ _ _ b o cap l hr hp hc ht =>
    exact ⟨l, hr, by rw [← hr.len, hb], .some _ _ _ _ (fun j v hj => by rw [Addr.add_lit]; exact hi.pub _ _ _ (hp j v hj))⟩
   | sl0 _ a cap _ => exact ⟨[], .nil, by simp, .some _ _ _ _ (fun j v hj => by simp at hj)⟩
  ·simp at h
 ·rename_i id off n' z' cap'
  split at h
  ·rename_i bs' e' fl fz hbs
   split at h
   ·rename_i hle
    have hle := Nat.le_of_ble_eq_true hle
    simp only [Option.some.injEq, Prod.mk.injEq] at h
    obtain ⟨rfl, rfl⟩ := h
    cases hx with
    | ms _ _ _ _ _ b o bs co c hb hc ho hk =>
     obtain ⟨pre, mid, rest, f, h1, h2, hr, _, _, _, h3⟩ := hi.cells (i := id) hbs hb
     have hlen := hr.len
     have hl : ((mid.drop off).take (n' * z)).length = n' * z := by
      rw [List.length_take, List.length_drop]; omega
     refine ⟨(mid.drop off).take (n' * z), hr.sub _ _, hl, .some _ _ _ _ (fun j v hj => ?_)⟩
     rcases ho with ho | ho
     ·have : n' = 0 := by omega
      subst this
      simp at hj
     ·rw [Addr.add_lit, ho]
      rw [List.getElem?_take] at hj
      split at hj
      ·rw [List.getElem?_drop] at hj
       rw [Nat.add_assoc]
       exact h3 _ _ hj
      ·simp at hj
   ·simp at h
  ·simp at h
 ·simp at h
theorem Je1 {g : Gh} : ∀ (cs : List V) {bs : List UInt8} {l : List Value}, bytesOf cs = some bs → Rs g cs l → ∃ ns : List Int, l = ns.map (Value.int .u8) ∧ bs = ns.map fun n => UInt8.ofNat n.toNat
 | [], bs, l, h, hr => by cases hr; simp [bytesOf] at h; subst h; exact ⟨[], rfl, rfl⟩
 | v :: vs, bs, l, h, hr => by
  unfold bytesOf at h
  split at h
  ·rename_i e; simp at e
  ·rename_i n r e
   simp only [List.cons.injEq] at e
   obtain ⟨rfl, rfl⟩ := e
   split at h
   ·rename_i bs' hb
    simp only [Option.some.injEq] at h; subst h
    cases hr with
    | cons _ c _ cs hc hcs =>
     cases hc
     obtain ⟨ns, rfl, rfl⟩ := Je1 vs hb hcs
     exact ⟨n :: ns, rfl, rfl⟩
   ·simp at h
  ·simp at h
theorem Jly (ns : List Int) : ∀ (b : List UInt8), ns.foldl (fun (r : ByteArray) n => r.push (UInt8.ofNat n.toNat)) ⟨⟨b⟩⟩ = ⟨⟨b ++ ns.map fun n => UInt8.ofNat n.toNat⟩⟩ := by
 induction ns with
 | nil => intro b; simp
 | cons n ns ih =>
  intro b
  simp only [List.foldl_cons, List.map_cons]
  have : (⟨⟨b⟩⟩ : ByteArray).push (UInt8.ofNat n.toNat) = ⟨⟨b ++ [UInt8.ofNat n.toNat]⟩⟩ := by
   apply ByteArray.ext; simp [ByteArray.push]
  rw [this, ih]
  simp
theorem Jci {P : Program} {w : World} {b : Nat} {L : Array Value} {e : TypeId} {f : Nat × Nat} (h : w.heap[b]? = some (.cells L e f)) : (shape b).run P w = .ok (some (e, L.size)) w := by
 simp [shape, Sem.run, World.shape?, h]
theorem Jew {P : Program} {w : World} {b : Nat} {L : Array Value} {e : TypeId} {f : Nat × Nat} (h : w.heap[b]? = some (.cells L e f)) : (viewAt b).run P w = .ok none w := by
 simp [viewAt, Sem.run_bind, Jci h]
theorem Jex {P : Program} {w : World} {b o : Nat} {L : Array Value} {e : TypeId} {f : Nat × Nat} (h : w.heap[b]? = some (.cells L e f)) : (Conv.seenAt ⟨b, o, none⟩).run P w = .ok ⟨b, o, none⟩ w := by
 simp [Conv.seenAt, Sem.run_bind, Jew h]
theorem JgT {P : Program} {w : World} {b : Nat} {L : Array Value} {e : TypeId} {f : Nat × Nat} (h : w.heap[b]? = some (.cells L e f)) : (cellsIn b).run P w = .ok (some L.size) w := by
 simp [cellsIn, Sem.run_bind, Jci h]
theorem Jlz {P : Program} {base : Nat} {g : Gh} {st : St} {w : World} (hi : Inv base g st.abs w) {s d : TypeId} {x v : V} (h : QJ P st s d x = some v) {c : Value} (hx : R g x c) :
  ∃ r, (convert s d c).run P w = .ok r w ∧ R g v r := by
 unfold QJ at h
 split at h
 ·rename_i e hs hd
  split at h
  ·rename_i cs n he hc
   split at h
   ·rename_i bs hb
    simp only [Option.some.injEq] at h; subst h
    obtain ⟨l, hr, hl, hlies⟩ := JcS hi hc hx
    obtain ⟨ns, hns, rfl⟩ := Je1 _ hb hr
    refine ⟨.string ⟨⟨ns.map fun n => UInt8.ofNat n.toNat⟩⟩, ?_, by have := R.str (g := g) (S.ofList (ns.map fun n => UInt8.ofNat n.toNat)); rwa [S.toList_ofList] at this⟩
    cases hlies with
    | none c =>
     have : ns = [] := by simpa using hns.symm
     subst this
     simp [convert, run_underlying hs, run_underlying hd, run_underlying he, Conv.bytesToString]
     rfl
    | some a n c _ hcell =>
     subst hns
     rw [run_convert_bytes_string w s d e (some a) n c hs he hd]
     have hn : ns.length = n := by simpa using hl
     have h1 := run_loadCells_list (P := P) (w := w) a (ns.map (Value.int .u8)) hcell
     rw [List.length_map, hn] at h1
     rw [run_bytesToString w a n c ns h1]
     have := Jly ns []
     rw [List.nil_append] at this
     rw [← this]
     rfl
   ·simp at h
  ·simp at h
 ·
  rename_i t hs hd
  split at h
  ·simp only [Option.some.injEq] at h; subst h
   cases hx
   exact ⟨.pointer none, by simp [convert, run_underlying hs, run_underlying hd, Conv.unsafePointer], .nilp⟩
  ·rename_i id off
   split at h
   ·rename_i cs e fl fz z hcs hz
    split at h
    ·rename_i hlt
     have hlt : off < cs.length := by simpa [Nat.blt_eq] using hlt
     simp only [Option.some.injEq] at h; subst h
     cases hx with
     | ptr _ _ b o bs hb =>
      obtain ⟨pre, mid, rest, f, h1, h2, hr, _, _, _, _⟩ := hi.cells (i := id) hcs hb
      refine ⟨.pointer (some ⟨b, o + off, none⟩), ?_, .ptr _ _ b o bs hb⟩
      have hlen := hr.len
      have hnot : ¬ ((⟨pre ++ mid ++ rest⟩ : Array Value).size ≤ o + off) := by
       simp; omega
      simp [convert, run_underlying hs, run_underlying hd, Conv.unsafePointer, Jex h1, JgT h1, JU hz]
      simp at hnot
      omega
    ·simp at h
   ·simp at h
  ·simp at h
 ·
  rename_i u hs hd
  split at h
  ·simp only [Option.some.injEq] at h; subst h
   cases hx
   exact ⟨.pointer none, by simp [convert, run_underlying hs, run_underlying hd, Conv.unsafePointer], .nilp⟩
  ·rename_i id off
   split at h
   ·rename_i cs e fz zu hcs hzu
    split at h
    ·rename_i hlies
     simp only [Option.some.injEq] at h; subst h
     cases hx with
     | ptr _ _ b o bs hb =>
      obtain ⟨pre, mid, rest, f, h1, h2, hr, _, hf, _, _⟩ := hi.cells (i := id) hcs hb
      obtain ⟨rfl, rfl⟩ := hf rfl
      have hpre : pre = [] := List.eq_nil_of_length_eq_zero h2
      subst hpre
      have hlen := hr.len
      refine ⟨.pointer (some ⟨b, 0 + off, none⟩), ?_, .ptr _ _ b 0 bs hb⟩
      have hv : (variablesAt ⟨b, 0 + off, none⟩ u 1).run P w = .ok true w := by
       have : (⟨[] ++ mid ++ []⟩ : Array Value).size = cs.length := by simp [hlen]
       simp only [variablesAt, Sem.run_bind, program, Sem.run, Result.andThen, Jci h1, this, Nat.zero_add]
       simp only [pure, Sem.run]
       rw [hlies]
      simp only [Nat.zero_add] at hv ⊢
      simp only [convert, Sem.run_bind, run_underlying hs, run_underlying hd, Result.andThen_ok, Conv.unsafePointer, Jex h1, JU hzu]
      by_cases hn : zu = 0
      ·simp [hn, hv]
      ·simp [hn, hv]
    ·simp at h
   ·simp at h
  ·simp at h
 ·exact JbA h (.cons _ _ _ _ hx .nil) w
inductive Ps (g : Gh) : List (Nat × V) → List (Nat × Value) → Prop
 | nil : Ps g [] []
 | cons (i : Nat) (v : V) (c : Value) (vs : List (Nat × V)) (cs : List (Nat × Value)) (h : R g v c) (hs : Ps g vs cs) : Ps g ((i, v) :: vs) ((i, c) :: cs)
theorem Je2 [Memo] {g : Gh} {N : Nat} {fr : Fr} {a : Act} (h : FR g N fr a) : ∀ (xs : List (Nat × Operand)) {vs : List (Nat × V)}, Jc fr xs = some vs → Ps g vs (xs.map fun (i, x) => (i, a.eval x))
 | [], vs, hv => by simp [Jc] at hv; subst hv; exact .nil
 | (i, x) :: xs, vs, hv => by
  simp only [Jc] at hv
  split at hv
  ·rename_i v h1
   split at hv
   ·rename_i l h2
    simp only [Option.some.injEq] at hv; subst hv
    exact .cons _ _ _ _ _ (QN h h1) (Je2 h xs h2)
   ·simp at hv
  ·simp at hv
theorem Jhs (off : Nat) : ∀ (vs : List Value) (k : Nat) (cs : Array Value), off + k + vs.length ≤ cs.size →
  ((vs.zipIdx k).foldl (fun (cs : Array Value) (p : Value × Nat) => cs.setIfInBounds (off + p.2) p.1) cs) = ⟨cs.toList.take (off + k) ++ vs ++ cs.toList.drop (off + k + vs.length)⟩
 | [], k, cs, h => by simp
 | v :: vs, k, cs, h => by
  simp only [List.length_cons] at h
  simp only [List.zipIdx_cons, List.foldl_cons]
  rw [Jhs off vs (k + 1) _ (by simp; omega)]
  have hlt : off + k < cs.toList.length := by simpa using (show off + k < cs.size by omega)
  congr 1
  rw [Array.toList_setIfInBounds]
  have e : cs.toList.set (off + k) v = cs.toList.take (off + k) ++ v :: cs.toList.drop (off + k + 1) := by
   rw [List.set_eq_take_append_cons_drop, if_pos hlt]
  have hl : (cs.toList.take (off + k)).length = off + k := by rw [List.length_take]; omega
  have e1 : off + (k + 1) = (cs.toList.take (off + k)).length + 1 := by omega
  have e2 : off + (k + 1) + vs.length = (cs.toList.take (off + k)).length + (vs.length + 1) := by omega
  rw [e, e2, e1, List.take_length_add_append, List.drop_length_add_append]
  have e3 : off + k + (vs.length + 1) = off + k + 1 + vs.length := by omega
  simp [List.drop_drop, e3]
theorem JfE {g : Gh} {place : Nat → Option (Nat × Nat)} : ∀ {vs : List (Nat × V)} {cells : List V} {r : List V} {cs : List (Nat × Value)} {l : List Value},
  Jgm place cells vs = some r → Ps g vs cs → Rs g cells l → ∃ l', Instr.fill place ⟨l⟩ cs = some ⟨l'⟩ ∧ Rs g r l'
 | [], cells, r, cs, l, h, hp, hr => by
  cases hp
  simp [Jgm] at h; subst h
  exact ⟨l, rfl, hr⟩
 | (i, v) :: vs, cells, r, cs, l, h, hp, hr => by
  cases hp with
  | cons _ _ c _ cs' hc hps =>
   simp only [Jgm] at h
   split at h
   ·simp at h
   ·rename_i off size hpl
    split at h
    ·rename_i hb
     obtain ⟨b1, b2⟩ := Jav hb
     have b1 := Nat.eq_of_beq_eq_true b1
     have b2 := Nat.le_of_ble_eq_true b2
     have hcc := hc.cells
     have hlen := hcc.len
     have hl := hr.len
     have hov : Rs g (over cells off v.cells) (l.take off ++ c.cells.toList ++ l.drop (off + c.cells.toList.length)) := by
      unfold over
      rw [← hlen]
      exact ((hr.take off).app hcc).app (hr.drop _)
     obtain ⟨l', h1, h2⟩ := JfE h hps hov
     refine ⟨l', ?_, h2⟩
     have hsz : c.cells.size = size := by rw [← Array.length_toList, ← hlen, b1]
     simp only [Instr.fill, hpl]
     rw [if_neg (by simp [hsz]; omega)]
     have := Jhs off c.cells.toList 0 ⟨l⟩ (by simp; omega)
     rw [← Array.foldl_toList, Array.toList_zipIdx]
     simp only [Nat.add_zero] at this
     rw [this]
     exact h1
    ·simp at h
end Go.Vm
namespace Go.Vm
open Go Go.RowKit
theorem JhS {P : Program} {t : TypeId} {z : V} (h : Jat P t = some z) (g : Gh) : ∃ i c, P.info? t = some i ∧ i.zero = some c ∧ R g z c := by
 unfold Jat at h
 split at h
 ·rename_i i hi
  split at h
  ·rename_i c hc
   exact ⟨i, c, hi, hc, JkR 3 _ _ h⟩
  ·simp at h
 ·simp at h
theorem JaT {P : Program} {t : TypeId} {z : V} (h : Jat P t = some z) (g : Gh) : ∃ c, (∀ w, (zeroValue t).run P w = .ok c w) ∧ R g z c := by
 obtain ⟨i, c, h1, h2, h3⟩ := JhS h g
 exact ⟨c, fun w => by simp [zeroValue, typeInfo, h1, h2], h3⟩
theorem JiS {α β : Type} {P : Program} {w : World} (f : α → Sem β) (q : α → Option β) (hf : ∀ x y, q x = some y → (f x).run P w = .ok y w) :
  ∀ (l : List α) (r : List β), Jd q l = some r → (l.mapM f).run P w = .ok r w
 | [], r, h => by simp [Jd] at h; subst h; simp
 | x :: xs, r, h => by
  obtain ⟨y, ys, h1, h2, rfl⟩ := Ja3 h
  simp [List.mapM_cons, hf x y h1, JiS f q hf xs ys h2]
theorem Jm6 {α β : Type} {P : Program} {w : World} (f : α → Sem β) (q : α → Option β) (hf : ∀ x y, q x = some y → (f x).run P w = .ok y w)
  (l : Array α) (r : List β) (h : Jd q l.toList = some r) : (l.mapM f).run P w = .ok ⟨r⟩ w := by
 rw [Array.mapM_eq_mapM_toList]
 simp [JiS f q hf l.toList r h]
theorem JhT {P : Program} {fs : Array Field} {pl : List (Nat × Nat)} (h : JiL P fs.toList = some pl) (w : World) :
  (fs.mapM fun f => do pure (f.offset, ← sizeOf f.type) : Sem (Array (Nat × Nat))).run P w = .ok ⟨pl⟩ w := by
 refine Jm6 _ (fun (f : Field) => match Qj P f.type with | some z => some (f.offset, z) | none => none) ?_ fs pl h
 intro f y hy
 split at hy
 ·rename_i z hz
  simp only [Option.some.injEq] at hy; subst hy
  simp [JU hz]
 ·simp at hy
theorem JjX {P : Program} {g : Gh} {t : TypeId} {ps : List (Nat × V)} {v : V} (h : Jb7 P t ps = some v) {cps : List (Nat × Value)} (hp : Ps g ps cps) (w : World) :
  ∃ c, (Instr.build t ⟨cps⟩).run P w = .ok c w ∧ R g v c := by
 unfold Jb7 at h
 split at h
 ·rename_i z fs hz hu
  obtain ⟨zc, hzr, hzR⟩ := JaT hz g
  split at h
  ·rename_i pl hpl
   split at h
   ·rename_i cs hf
    simp only [Option.some.injEq] at h; subst h
    obtain ⟨l', h1, h2⟩ := JfE hf hp hzR.cells
    refine ⟨.agg ⟨l'⟩, ?_, .agg _ _ h2⟩
    have hpr := JhT hpl w
    have e : (fun (i : Nat) => (⟨pl⟩ : Array (Nat × Nat))[i]?) = fun (i : Nat) => pl[i]? := by funext i; simp
    simp only [Instr.build, Sem.run_bind, hzr, Result.andThen_ok, run_underlying hu]
    simp only [hpr, Result.andThen_ok, e]
    have h1' : Instr.fill (fun i => pl[i]?) zc.cells cps = some ⟨l'⟩ := h1
    rw [h1']
    rfl
   ·simp at h
  ·simp at h
 ·rename_i z n e hz hu
  obtain ⟨zc, hzr, hzR⟩ := JaT hz g
  split at h
  ·rename_i sz hsz
   split at h
   ·rename_i cs hf
    simp only [Option.some.injEq] at h; subst h
    obtain ⟨l', h1, h2⟩ := JfE hf hp hzR.cells
    refine ⟨.agg ⟨l'⟩, ?_, .agg _ _ h2⟩
    simp only [Instr.build, Sem.run_bind, hzr, Result.andThen_ok, run_underlying hu, JU hsz]
    have h1' : Instr.fill (fun i => some (i * sz, sz)) zc.cells cps = some ⟨l'⟩ := h1
    rw [h1']
    rfl
   ·simp at h
  ·simp at h
 ·simp at h
def zerosC (z : List Value) : Nat → List Value
 | 0 => []
 | n + 1 => z ++ zerosC z n
theorem JhU {g : Gh} {z : List V} {l : List Value} (h : Rs g z l) : ∀ n, Rs g (Jgn z n) (zerosC l n)
 | 0 => .nil
 | n + 1 => h.app (JhU h n)
theorem JdS (z : List Value) : ∀ n, (zerosC z n).length = n * z.length
 | 0 => by simp [zerosC]
 | n + 1 => by simp [zerosC, JdS z n, Nat.succ_mul, Nat.add_comm]
theorem Jgy (z : List Value) (hz : 0 < z.length) : ∀ (n i : Nat), i < n * z.length → (zerosC z n)[i]? = z[i % z.length]?
 | 0, i, h => by simp at h
 | n + 1, i, h => by
  simp only [zerosC, List.getElem?_append]
  split
  ·rename_i hlt
   rw [Nat.mod_eq_of_lt hlt]
  ·rename_i hge
   rw [Jgy z hz n _ (by rw [Nat.succ_mul] at h; omega)]
   congr 1
   exact (Nat.mod_eq_sub_mod (by omega)).symm
theorem Jgz (z : List Value) (n : Nat) (hz : 0 < z.length) : ((Array.range (n * z.length)).map fun i => (⟨z⟩ : Array Value)[i % (⟨z⟩ : Array Value).size]!) = ⟨zerosC z n⟩ := by
 apply Array.ext'
 apply List.ext_getElem?
 intro i
 by_cases hi : i < n * z.length
 ·rw [Jgy z hz n i hi]
  have hm : i % z.length < z.length := Nat.mod_lt _ hz
  simp [hi, hm]
 ·have h2 : (zerosC z n)[i]? = none := by rw [List.getElem?_eq_none_iff, JdS]; omega
  rw [h2]
  simp; omega
theorem Inv.nopub {base : Nat} {g : Gh} {s : SS} {w : World} (hi : Inv base g s w) (o : Nat) : g.pub w.heap.size o = none := by
 cases h : g.pub w.heap.size o with
 | none => rfl
 | some c => exact absurd (World.block_lt_of_cell? w _ (hi.pub _ _ _ h)) (Nat.lt_irrefl _)
theorem Jfp {P : Program} {g : Gh} {w : World} {t : TypeId} {n : Nat} {ps : List (Nat × V)} {cs : List V} {e : TypeId} {z : Nat} (h : Q8 P t n ps = some (cs, e, z))
  {cps : List (Nat × Value)} (hp : Ps g ps cps) :
  ∃ l, (Instr.buildSlice t n ⟨cps⟩).run P w = .ok (.slice (some ⟨w.heap.size, 0, none⟩) n n) (w.alloc (.cells ⟨l⟩ e)) ∧ Rs g cs l := by
 unfold Q8 at h
 split at h
 ·rename_i e' hu
  split at h
  ·rename_i z' zv hz hzv
   split at h
   ·rename_i hb
    obtain ⟨b1, b2⟩ := Jav hb
    have b1 := Nat.le_of_ble_eq_true b1
    have b2 := Nat.eq_of_beq_eq_true b2
    split at h
    ·rename_i cs' hf
     split at h
     ·simp only [Option.some.injEq, Prod.mk.injEq] at h
      obtain ⟨rfl, rfl, rfl⟩ := h
      obtain ⟨zc, hzr, hzR⟩ := JaT hzv g
      have hzc := hzR.cells
      have hzl : zc.cells.toList.length = z' := by rw [← hzc.len, b2]
      obtain ⟨l', h1, h2⟩ := JfE hf hp (JhU hzc n)
      refine ⟨l', ?_, h2⟩
      have hle : ¬ (n * z' > 2 ^ 24) := by omega
      simp only [Instr.buildSlice, Sem.run_bind, run_underlying hu, Result.andThen_ok, JU hz, if_neg hle]
      by_cases h0 : n * z' = 0
      ·have hz0 : zerosC zc.cells.toList n = [] := List.eq_nil_of_length_eq_zero (by rw [JdS, hzl]; exact h0)
       rw [hz0] at h1
       rw [if_pos h0]
       simp only [h0, Sem.run_bind, Sem.run_pure, Result.andThen_ok]
       have e0 : (Array.map (fun x => (#[] : Array Value)[x % (#[] : Array Value).size]!) (Array.range 0)) = ⟨[]⟩ := by rw [Array.range_zero']; simp
       rw [e0, h1]
       simp [newRow]
      ·have hp0 : 0 < zc.cells.toList.length := by rw [hzl]; exact Nat.pos_of_ne_zero (fun e => h0 (by simp [e]))
       have hzc2 := Jgz zc.cells.toList n hp0
       rw [hzl] at hzc2
       rw [if_neg h0]
       simp only [Sem.run_bind, hzr, Sem.run_pure, Result.andThen_ok]
       have e0 : (Array.map (fun x => zc.cells[x % zc.cells.size]!) (Array.range (n * z'))) = ⟨zerosC zc.cells.toList n⟩ := hzc2
       rw [e0, h1]
       simp [newRow]
     ·simp at h
    ·simp at h
   ·simp at h
  ·simp at h
 ·simp at h
theorem JiT {P : Program} {g : Gh} {x v : V} {asserted : TypeId} {ok : Bool} (h : JhP P x asserted ok = some v) {cx : Value} (hx : R g x cx) (xt : TypeId) (w : World) :
  ∃ c, (Instr.typeAssert cx xt asserted ok).run P w = .ok c w ∧ R g v c := by
 unfold JhP at h
 split at h
 ·rename_i want t u hu
  cases hx with
  | iface _ _ y hy =>
  split at h
  ·rename_i i hi
   split at h
   ·rename_i hm
    simp only [Option.some.injEq] at h; subst h
    exact ⟨.tuple #[.iface t y, .bool true], by simp [Instr.typeAssert, run_underlying hu, typeInfo, hi, hm], .tup _ _ (.cons _ _ _ _ (.iface _ _ _ hy) (.cons _ _ _ _ (.bool _) .nil))⟩
   ·rename_i hm
    simp only [Option.some.injEq] at h; subst h
    exact ⟨.iface t y, by simp [Instr.typeAssert, run_underlying hu, typeInfo, hi, hm], .iface _ _ _ hy⟩
   ·rename_i s hm
    split at h
    ·rename_i z hz
     simp only [Option.some.injEq] at h; subst h
     obtain ⟨zc, z1, z2⟩ := JaT hz g
     exact ⟨.tuple #[zc, .bool false], by simp [Instr.typeAssert, run_underlying hu, typeInfo, hi, hm, z1], .tup _ _ (.cons _ _ _ _ z2 (.cons _ _ _ _ (.bool _) .nil))⟩
    ·simp at h
   ·simp at h
  ·simp at h
 ·rename_i want hu
  cases hx
  split at h
  ·rename_i z hz
   simp only [Option.some.injEq] at h; subst h
   obtain ⟨zc, z1, z2⟩ := JaT hz g
   exact ⟨.tuple #[zc, .bool false], by simp [Instr.typeAssert, run_underlying hu, z1], .tup _ _ (.cons _ _ _ _ z2 (.cons _ _ _ _ (.bool _) .nil))⟩
  ·simp at h
 ·rename_i d t u hni hu
  cases hx with
  | iface _ _ y hy =>
  split at h
  ·rename_i ht
   have ht := Nat.eq_of_beq_eq_true ht
   subst ht
   simp only [Option.some.injEq] at h; subst h
   refine ⟨.tuple #[y, .bool true], ?_, .tup _ _ (.cons _ _ _ _ hy (.cons _ _ _ _ (.bool _) .nil))⟩
   cases d <;> first | (exact absurd rfl (hni _)) | simp [Instr.typeAssert, run_underlying hu]
  ·rename_i ht
   have ht := Nat.eq_of_beq_eq_true ht
   subst ht
   simp only [Option.some.injEq] at h; subst h
   refine ⟨y, ?_, hy⟩
   cases d <;> first | (exact absurd rfl (hni _)) | simp [Instr.typeAssert, run_underlying hu]
  ·rename_i ht
   have hne : ¬ t = asserted := fun e => by subst e; rw [Nat.beq_refl] at ht; simp at ht
   split at h
   ·rename_i z hz
    simp only [Option.some.injEq] at h; subst h
    obtain ⟨zc, z1, z2⟩ := JaT hz g
    refine ⟨.tuple #[zc, .bool false], ?_, .tup _ _ (.cons _ _ _ _ z2 (.cons _ _ _ _ (.bool _) .nil))⟩
    cases d <;> first | (exact absurd rfl (hni _)) | simp [Instr.typeAssert, run_underlying hu, hne, z1]
   ·simp at h
  ·simp at h
 ·rename_i d hni hu
  cases hx
  split at h
  ·rename_i z hz
   simp only [Option.some.injEq] at h; subst h
   obtain ⟨zc, z1, z2⟩ := JaT hz g
   refine ⟨.tuple #[zc, .bool false], ?_, .tup _ _ (.cons _ _ _ _ z2 (.cons _ _ _ _ (.bool _) .nil))⟩
   cases d <;> first | (exact absurd rfl (hni _)) | simp [Instr.typeAssert, run_underlying hu, z1]
  ·simp at h
 ·simp at h
theorem JhV {g : Gh} {d : TypeDesc} {a b : V} {r : Bool} (h : Jgl d a b = some r) {ca cb : Value} (ha : R g a ca) (hb : R g b cb) : Instr.sameNow d ca cb = some r := by
 unfold Jgl at h
 split at h
 ·cases ha; cases hb
  split at h
  ·rename_i hk
   have hk := of_decide_eq_true hk
   subst hk
   simp only [Option.some.injEq] at h; subst h
   simp [Instr.sameNow]
  ·simp at h
 ·cases ha; cases hb
  simp only [Option.some.injEq] at h; subst h
  rw [S.same_eq]
  simp only [Instr.sameNow]
  congr 1
  rename_i x y
  show ((⟨x.toList⟩ : Array UInt8) == ⟨y.toList⟩) = (x.toList == y.toList)
  rw [Bool.eq_iff_iff]
  simp
 ·simp at h
theorem JcP {d : TypeDesc} {a b : V} {r : Bool} (h : Jgl d a b = some r) : (∃ k, d = .int k) ∨ d = .string := by
 unfold Jgl at h
 split at h
 ·exact .inl ⟨_, rfl⟩
 ·exact .inr rfl
 ·simp at h
theorem JgP {P : Program} {kt : TypeId} {d : TypeDesc} (hd : P.underlying kt = some d) (hk : (∃ k, d = .int k) ∨ d = .string) (em : Bool) (n : Nat) (c : Value) (w : World) : (Instr.checkKey em (n + 1) kt c).run P w = .ok () w := by
 simp only [Instr.checkKey, Sem.run_bind, run_underlying hd, Result.andThen_ok]
 rcases hk with ⟨k, rfl⟩ | rfl <;> cases c <;> rfl
theorem JbU {P : Program} {kt : TypeId} {d : TypeDesc} (hd : P.underlying kt = some d) (hk : (∃ k, d = .int k) ∨ d = .string) (em : Bool) (c : Value) (w : World) : (Instr.checkKey em 10000 kt c).run P w = .ok () w :=
 JgP hd hk em 9999 c w
theorem Jen {g : Gh} {d : TypeDesc} {k : V} {ck : Value} (hk : R g k ck) : ∀ (l : List (V × V × Nat)) (i : Nat) (es : List MapEntry) (r : Option (Nat × V)), Jhg d k l i = some r → Es g l es →
  ∃ r', Instr.findNow d ck es i = some r' ∧ (match r, r' with
   | none, none => True
   | some (j, v), some (j', c) => j = j' ∧ R g v c
   | _, _ => False)
 | [], i, es, r, h, he => by
  have : es = [] := List.eq_nil_of_length_eq_zero (by simpa using he.1.symm)
  subst this
  simp only [Jhg, Option.some.injEq] at h; subst h
  exact ⟨none, rfl, trivial⟩
 | (k', v, n) :: l, i, es, r, h, he => by
  cases es with
  | nil => have := he.1; simp at this
  | cons e es =>
   obtain ⟨e', h1, h2, h3, h4⟩ := he.2 0 k' v n rfl
   simp only [List.getElem?_cons_zero, Option.some.injEq] at h1
   subst h1
   simp only [Jhg] at h
   split at h
   ·rename_i hs
    simp only [Option.some.injEq] at h; subst h
    exact ⟨some (i, e.val), by simp [Instr.findNow, JhV hs hk h2], rfl, h3⟩
   ·rename_i hs
    obtain ⟨r', q1, q2⟩ := Jen hk l (i + 1) es r h ⟨by have := he.1; simpa using this, fun j a b m hj => by
     obtain ⟨e', p1, p2⟩ := he.2 (j + 1) a b m (by simpa using hj)
     exact ⟨e', by simpa using p1, p2⟩⟩
    exact ⟨r', by simp [Instr.findNow, JhV hs hk h2, q1], q2⟩
   ·simp at h
theorem Inv.entries {base : Nat} {g : Gh} {s : SS} {w : World} (hi : Inv base g s w) {i : Nat} {l : List (V × V × Nat)} {clock : Nat} (h : s.box i = some (.entries l clock)) {b o bs : Nat} (hb : g.box i = some (b, o, bs)) :
  ∃ es, w.heap[b]? = some (.map es clock) ∧ Es g l es.toList := by
 obtain ⟨b', o', bs', m, h1, h2, h3⟩ := hi.box i _ h
 have e1 : (b', o', bs') = (b, o, bs) := by rw [h1] at hb; simpa using hb
 simp only [Prod.mk.injEq] at e1
 obtain ⟨rfl, rfl, rfl⟩ := e1
 cases h3 with
 | entries _ _ es he => exact ⟨es, h2, he⟩
theorem JiU {P : Program} {base : Nat} {g : Gh} {st : St} {w : World} (hi : Inv base g st.abs w) {t : TypeId} {x k v : V} {ok : Bool} (h : JhO P st t x k ok = some v) {cx ck : Value} (hx : R g x cx) (hk : R g k ck) :
  ∃ c, (Instr.lookup t cx ck ok).run P w = .ok c w ∧ R g v c := by
 unfold JhO at h
 split at h
 ·rename_i kt et hu
  split at h
  ·rename_i d l hd hl
   have key : ∃ es : Array MapEntry, Es g l es.toList ∧ ((cx = .map none ∧ es = #[]) ∨ ∃ b clock, cx = .map (some b) ∧ w.heap[b]? = some (.map es clock)) := by
    split at hl
    ·simp only [Option.some.injEq] at hl; subst hl
     cases hx
     exact ⟨#[], ⟨rfl, fun i a b n hi => by simp at hi⟩, .inl ⟨rfl, rfl⟩⟩
    ·rename_i id
     split at hl
     ·rename_i l' clock hcs
      simp only [Option.some.injEq] at hl; subst hl
      cases hx with
      | mapp _ b o bs hb =>
       obtain ⟨es, h1, h2⟩ := hi.entries (i := id) hcs hb
       exact ⟨es, h2, .inr ⟨b, clock, rfl, h1⟩⟩
     ·simp at hl
    ·simp at hl
   obtain ⟨es, he, hcx⟩ := key
   have fin : ∀ (v1 : V) (c1 : Value) (b1 : Bool), R g v1 c1 → v = okV ok v1 b1 → R g v (if ok then .tuple #[c1, .bool b1] else c1) := by
    rintro v1 c1 b1 hv rfl
    cases ok
    ·exact hv
    ·exact .tup _ _ (.cons _ _ _ _ hv (.cons _ _ _ _ (.bool _) .nil))
   split at h
   ·rename_i i v1 hs hf
    simp only [Option.some.injEq] at h
    obtain ⟨r', q1, q2⟩ := Jen hk l 0 es.toList _ hf he
    cases r' with
    | none => exact q2.elim
    | some p =>
     obtain ⟨j, c1⟩ := p
     refine ⟨_, ?_, fin v1 c1 true q2.2 h.symm⟩
     have hc := fun em => JbU hd (JcP hs) em ck w
     rcases hcx with ⟨rfl, rfl⟩ | ⟨b, clock, rfl, hb⟩
     ·simp only [Instr.lookup, Sem.run_bind, run_underlying hu, Result.andThen_ok, Sem.run_pure, hc, Instr.findKey, run_underlying hd, q1]
     ·have hg : (getObj b).run P w = .ok (.map es clock) w := by simp [getObj, Sem.run, hb]
      simp only [Instr.lookup, Sem.run_bind, run_underlying hu, Result.andThen_ok, Sem.run_pure, hg, hc, Instr.findKey, run_underlying hd, q1]
   ·rename_i hs hf
    split at h
    ·rename_i z hz
     simp only [Option.some.injEq] at h
     obtain ⟨zc, z1, z2⟩ := JaT hz g
     obtain ⟨r', q1, q2⟩ := Jen hk l 0 es.toList _ hf he
     cases r' with
     | some p => exact q2.elim
     | none =>
      refine ⟨_, ?_, fin z zc false z2 h.symm⟩
      have hc := fun em => JbU hd (JcP hs) em ck w
      rcases hcx with ⟨rfl, rfl⟩ | ⟨b, clock, rfl, hb⟩
      ·simp only [Instr.lookup, Sem.run_bind, run_underlying hu, Result.andThen_ok, Sem.run_pure, hc, Instr.findKey, run_underlying hd, q1, z1]
      ·have hg : (getObj b).run P w = .ok (.map es clock) w := by simp [getObj, Sem.run, hb]
       simp only [Instr.lookup, Sem.run_bind, run_underlying hu, Result.andThen_ok, Sem.run_pure, hg, hc, Instr.findKey, run_underlying hd, q1, z1]
    ·simp at h
   ·simp at h
  ·simp at h
 ·simp at h
end Go.Vm
