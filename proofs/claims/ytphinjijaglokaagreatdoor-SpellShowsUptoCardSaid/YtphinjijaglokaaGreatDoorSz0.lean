/- Lemmas for walks of any seat: loops with a rising index, strings, bytes, a draw's values. -/
import Derived.Test.YtphinjijaglokaaGreatDoorVmWv
import Derived.Test.YtphinjijaglokaaGreatDoorVmMemo
import Derived.Test.YtphinjijaglokaaGreatDoorVmLaid
import Derived.ChangeShapes
namespace Go.Vm
open Go
theorem Does.up [Memo] {P : Program} {b : Code} {Q : AE → Fr → St → Prop} (N : Nat) (I : Nat → Fr → St → Prop) (i0 : Nat) {fr : Fr} {st : St} (h0 : I i0 fr st) (hb : ∀ i fr st, I i fr st → i ≤ N)
  (step : ∀ i fr st, I i fr st → Does P b fr st (andThen (fun fr' st' => ∃ j, i < j ∧ I j fr' st') Q)) : Does P (.loop b) fr st Q := by
 refine Does.inv (fun n fr st => ∃ i, I i fr st ∧ n = N - i) (N - i0) ⟨i0, h0, rfl⟩ ?_
 rintro n fr st ⟨i, hi, rfl⟩
 refine (step i fr st hi).mono fun e fr' st' h => ?_
 cases e with
 | normal =>
  obtain ⟨j, hj, hij⟩ := h
  have := hb j _ _ hij
  exact ⟨N - j, by omega, j, hij, rfl⟩
 | exit id => exact h
 | ret => exact h
 | panic v => exact h
theorem S.drop_at (s : S) {i : Nat} (h : i < s.n) : s.toList.drop i = UInt8.ofNat (s.at i) :: s.toList.drop (i + 1) := by
 have h1 := s.toList_at h
 have h2 : i < s.toList.length := by simpa using h
 rw [List.drop_eq_getElem_cons h2]
 rw [List.getElem?_eq_getElem h2] at h1
 rw [Option.some.inj h1]
theorem Jdj {a b : Nat} (ha : a < 256) (hb : b < 256) : (UInt8.ofNat a = UInt8.ofNat b) ↔ a = b := by
 constructor
 ·intro h
  have := congrArg UInt8.toNat h
  simp at this; omega
 ·rintro rfl; rfl
theorem Jc4 {P : Program} {T : TypeId} (hT : P.underlying T = some .string) {s : S} {lo hi : Nat} (h1 : lo ≤ hi) (h2 : hi ≤ s.n) {k k' : IntKind} : Jan P T (.str s) (some (.int k (lo : Int))) (some (.int k' (hi : Int))) = some (.str (s.cut lo hi)) := by
 have e1 : Nat.ble lo hi = true := Nat.ble_eq_true_of_le h1
 have e2 : Nat.ble hi s.n = true := Nat.ble_eq_true_of_le h2
 simp only [Jan, hT, QD, Q6, e1, e2, Bool.and_self]
theorem Jbe {P : Program} {T : TypeId} (hT : P.underlying T = some .string) {s : S} {lo : Nat} (h1 : lo ≤ s.n) {k : IntKind} : Jan P T (.str s) (some (.int k (lo : Int))) none = some (.str (s.cut lo s.n)) := by
 have e1 : Nat.ble lo s.n = true := Nat.ble_eq_true_of_le h1
 simp only [Jan, hT, QD, Q6, e1, JbL, Bool.and_self]
theorem JeN {P : Program} {T : TypeId} (hT : P.underlying T = some .string) {s : S} {hi : Nat} (h2 : hi ≤ s.n) {k' : IntKind} : Jan P T (.str s) none (some (.int k' (hi : Int))) = some (.str (s.cut 0 hi)) := by
 have e1 : Nat.ble 0 hi = true := Nat.ble_eq_true_of_le (Nat.zero_le _)
 have e2 : Nat.ble hi s.n = true := Nat.ble_eq_true_of_le h2
 simp only [Jan, hT, QD, Q6, e1, e2, Bool.and_self]
theorem Jbf (s : S) {i : Nat} (h : i ≤ s.n) : (s.cut i s.n).toList = s.toList.drop i := by
 rw [S.toList_cut s h (Nat.le_refl _), List.take_of_length_le (by simp)]
theorem JeO (s : S) (i : Nat) : (s.cut i s.n).n = s.n - i := rfl
theorem Jgd (s : S) (i j : Nat) : (s.cut i j).n = j - i := rfl
theorem Keep.tick {a b : St} (h : Keep a b) (n : Nat) : Keep a { b with ctr := b.ctr + n } := ⟨Nat.le_trans h.ctr (Nat.le_add_right ..), h.box⟩
theorem Jbl (c : UInt8) : ∀ l : List UInt8, Lib.indexByte l c = if c ∈ l then ((l.takeWhile (· ≠ c)).length : Int) else -1
 | [] => rfl
 | b :: l => by
  rw [Lib.indexByte, Jbl c l]
  by_cases h : b = c
  ·subst h; simp
  ·have h' : (b == c) = false := by simpa using h
   by_cases hm : c ∈ l
   ·rw [h']
    have : ¬ ((List.takeWhile (fun x => decide (x ≠ c)) l).length : Int) = -1 := by omega
    simp only [Bool.false_eq_true, if_false, List.mem_cons, hm, or_true, if_true, beq_iff_eq, this]
    rw [List.takeWhile_cons_of_pos (by simp [h])]
    simp
   ·have h2 : ¬ c = b := fun h2 => h h2.symm
    simp [h', hm, h2]
theorem JbR (l : List UInt8) (c : UInt8) : (0 ≤ Lib.indexByte l c) ↔ c ∈ l := by
 rw [Jbl]
 by_cases h : c ∈ l
 ·simp [h]
 ·simp [h]
mutual
def vsz : V → Nat
 | .sl _ cs _ => JdK cs + 1
 | .cp cs => JdK cs + 1
 | .agg cs => JdK cs + 1
 | .tup cs => JdK cs + 1
 | .fn _ a b => JdK a + JdK b + 1
 | .iface _ x => vsz x + 1
 | _ => 1
def JdK : List V → Nat
 | [] => 1
 | a :: r => vsz a + JdK r + 1
end
mutual
theorem Jge : ∀ (n : Nat) (v : V), vsz v < n → veq n v v = true
 | 0, _, h => by omega
 | n + 1, v, h => by
  cases v with
  | sl m cs ex =>
   simp only [vsz] at h
   have := Jbx n cs (by omega)
   simp [veq, this]
  | cp cs =>
   simp only [vsz] at h
   have := Jbx n cs (by omega)
   simp [veq, this]
  | agg cs =>
   simp only [vsz] at h
   have := Jbx n cs (by omega)
   simp [veq, this]
  | tup cs =>
   simp only [vsz] at h
   have := Jbx n cs (by omega)
   simp [veq, this]
  | fn f a b =>
   simp only [vsz] at h
   have h1 := Jbx n a (by omega)
   have h2 := Jbx n b (by omega)
   simp [veq, h1, h2]
  | iface t x =>
   simp only [vsz] at h
   have := Jge n x (by omega)
   simp [veq, this]
  | _ => simp [veq]
theorem Jbx : ∀ (n : Nat) (l : List V), JdK l < n → Jdq n l l = true
 | 0, _, h => by omega
 | n + 1, [], _ => by simp [Jdq]
 | n + 1, a :: r, h => by
  simp only [JdK] at h
  have h1 := Jge n a (by omega)
  have h2 := Jbx n r (by omega)
  simp [Jdq, h1, h2]
end
theorem Qz (v : V) (h : vsz v < 1000000000) : veq 1000000000 v v = true := Jge _ v h
theorem JL (s : S) : veq 1000000000 (.str s) (.str s) = true := by simp [veq]
theorem JN (k : IntKind) (n : Int) : veq 1000000000 (.int k n) (.int k n) = true := by simp [veq]
theorem Jai {P : Program} {kk : Bool} {T : TypeId} {x y : S} (h : x.n + y.n < 1000000000) : Jn P kk .add T (.str x) (.str y) = some (.str (x.app y)) := by
 have : Nat.ble (Nat.add x.n y.n) maxStr = true := Nat.ble_eq_true_of_le (by show x.n + y.n ≤ maxStr; simp only [maxStr]; omega)
 simp only [Jn, this]
theorem Oks.cont [Memo] {P : Program} {ops : Array Oper} {l : List Oper} {fr : Fr} {st : St} {Q R : Fr → St → Prop} (h : Oks P ops l fr st Q) (k : ∀ fr' st', Q fr' st' → R fr' st') : Oks P ops l fr st R := by
 unfold Oks at h ⊢
 split at h
 ·exact k _ _ h
 ·exact h
theorem Jay {α β : Type} (P : Program) : ∀ (s : Sem α) (f : α → Sem β), Q2 P (s >>= f) = (Q2 P s).bind (fun a => Q2 P (f a)) := by
 intro s
 induction s with
 | pure a => intro f; rfl
 | program k ih => intro f; exact ih P f
 | mark m k ih => intro f; exact ih f
 | _ => intro f; rfl
theorem Jgf {α : Type} (P : Program) (a : α) : Q2 P (pure a) = some a := rfl
theorem JgK (P : Program) : Q2 P program = some P := rfl
theorem QP {P : Program} {t : TypeId} {d : TypeDesc} (h : P.underlying t = some d) : Q2 P (underlying t) = some d := by
 simp [underlying, Jay, JgK, h, Jgf]
end Go.Vm
namespace Go.Vm
open Go
section
variable {P : Program} {kk : Bool} {T : TypeId} {q : IntKind} {c m : Nat} {k : Int}
theorem JdL (h : k = (m : Int)) : Jn P kk .eql T (.int q (c : Int)) (.int q k) = some (.bool (decide (c = m))) := by subst h; rw [Jb4]; congr 2; simp; omega
theorem JjQ (h : k = (m : Int)) : Jn P kk .neq T (.int q (c : Int)) (.int q k) = some (.bool (!decide (c = m))) := by subst h; rw [Jf3]; congr 3; simp; omega
theorem JdM (h : k = (m : Int)) : Jn P kk .lss T (.int q (c : Int)) (.int q k) = some (.bool (decide (c < m))) := by subst h; rw [JaO]; congr 2; simp
theorem JjR (h : k = (m : Int)) : Jn P kk .leq T (.int q (c : Int)) (.int q k) = some (.bool (decide (c ≤ m))) := by subst h; rw [JaZ]; congr 2; simp
theorem Jgg (h : k = (m : Int)) : Jn P kk .gtr T (.int q (c : Int)) (.int q k) = some (.bool (decide (m < c))) := by subst h; rw [Jb3]; congr 2; simp
theorem JmA (h : k = (m : Int)) : Jn P kk .geq T (.int q (c : Int)) (.int q k) = some (.bool (decide (m ≤ c))) := by subst h; rw [Ja0]; congr 2; simp
end
end Go.Vm
namespace Go.Vm
open Go
theorem Q7 [Memo] {P : Program} {rd : Option Nat} {c : Code} {fr : Fr} {st : St} {r : Res} (h : body P (W P) (.code rd c fr) st = r) (hr : JhE r = true) : W P (.code rd c fr) st = r := by
 rcases JkG (Jl3 P) rd c fr st with ⟨w, hw⟩ | he
 ·rw [hw] at h; subst h; cases hr
 ·refine Jl2 hr (.step (he.mono fun m hm => ?_))
  rw [← h, ← hm]
  rfl
theorem JnR [Memo] {P : Program} {gl : Gl} {id : Nat} {args : List V} {st : St} {r : Res} (h : body P (W P) (.round gl id args) st = r) (hr : JhE r = true) : W P (.round gl id args) st = r := by
 rcases JmH (Jl3 P) gl id args st with ⟨w, hw⟩ | he
 ·rw [hw] at h; subst h; cases hr
 ·refine Jl2 hr (.step (he.mono fun m hm => ?_))
  rw [← h, ← hm]
  rfl
def DoR [Memo] (P : Program) (rd : Option Nat) (c : Code) (fr : Fr) (st : St) (Q : AE → Fr → St → Prop) : Prop := ∃ e fr' st', W P (.code rd c fr) st = .code e fr' st' ∧ Q e fr' st'
def OkR [Memo] (P : Program) (rd : Option Nat) (ops : Array Oper) (l : List Oper) (fr : Fr) (st : St) (Q : Fr → St → Prop) : Prop :=
 match Qr P (ihCall (W P)) rd ops l fr st with
 | .ok fr' st' => Q fr' st'
 | _ => False
variable {P : Program} {rd : Option Nat} {fr : Fr} {st : St} {Q : AE → Fr → St → Prop}
theorem DoR.mono [Memo] {c : Code} {R : AE → Fr → St → Prop} (h : DoR P rd c fr st Q) (k : ∀ e fr' st', Q e fr' st' → R e fr' st') : DoR P rd c fr st R := by
 obtain ⟨e, fr', st', h1, h2⟩ := h
 exact ⟨e, fr', st', h1, k _ _ _ h2⟩
theorem DoR.skip [Memo] (h : Q .normal fr st) : DoR P rd .skip fr st Q := ⟨_, _, _, Q7 rfl rfl, h⟩
theorem DoR.exit [Memo] {id : Nat} (h : Q (.exit id) fr st) : DoR P rd (.exit id) fr st Q := ⟨_, _, _, Q7 rfl rfl, h⟩
theorem DoR.ret [Memo] (h : Q .ret fr st) : DoR P rd .ret fr st Q := ⟨_, _, _, Q7 rfl rfl, h⟩
theorem DoR.seq [Memo] {a b : Code} (h : DoR P rd a fr st (andThen (fun fr st => DoR P rd b fr st Q) Q)) : DoR P rd (.seq a b) fr st Q := by
 obtain ⟨e, fr1, st1, h1, h2⟩ := h
 cases e with
 | normal =>
  obtain ⟨e2, fr2, st2, h3, h4⟩ := h2
  exact ⟨e2, fr2, st2, Q7 (by simp only [body, h1, h3]) rfl, h4⟩
 | exit id => exact ⟨_, _, _, Q7 (by simp only [body, h1]) rfl, h2⟩
 | ret => exact ⟨_, _, _, Q7 (by simp only [body, h1]) rfl, h2⟩
 | panic v => exact ⟨_, _, _, Q7 (by simp only [body, h1]) rfl, h2⟩
theorem DoR.condT [Memo] {x : Operand} {a b : Code} (hx : ev fr x = some (.bool true)) (h : DoR P rd a fr st Q) : DoR P rd (.cond x a b) fr st Q := by
 obtain ⟨e, fr1, st1, h1, h2⟩ := h
 exact ⟨e, fr1, st1, Q7 (by simp only [body, hx, h1]) rfl, h2⟩
theorem DoR.condF [Memo] {x : Operand} {a b : Code} (hx : ev fr x = some (.bool false)) (h : DoR P rd b fr st Q) : DoR P rd (.cond x a b) fr st Q := by
 obtain ⟨e, fr1, st1, h1, h2⟩ := h
 exact ⟨e, fr1, st1, Q7 (by simp only [body, hx, h1]) rfl, h2⟩
theorem DoR.block [Memo] {id : Nat} {b : Code} (h : DoR P rd b fr st (inBlock id Q)) : DoR P rd (.block id b) fr st Q := by
 obtain ⟨e, fr1, st1, h1, h2⟩ := h
 cases e with
 | normal => exact ⟨_, _, _, Q7 (by simp only [body, h1]) rfl, h2⟩
 | exit j =>
  simp only [inBlock] at h2
  by_cases hj : j = id
  ·subst hj
   simp only [if_true] at h2
   exact ⟨.normal, fr1, st1, Q7 (by simp only [body, h1, Nat.beq_refl]) rfl, h2⟩
  ·simp only [hj, if_false] at h2
   have : Nat.beq j id = false := by rw [Jfx]; exact decide_eq_false hj
   exact ⟨.exit j, fr1, st1, Q7 (by simp only [body, h1, this]) rfl, h2⟩
 | ret => exact ⟨_, _, _, Q7 (by simp only [body, h1]) rfl, h2⟩
 | panic v => exact ⟨_, _, _, Q7 (by simp only [body, h1]) rfl, h2⟩
theorem DoR.loop [Memo] {b : Code} (h : DoR P rd b fr st (andThen (fun fr st => DoR P rd (.loop b) fr st Q) Q)) : DoR P rd (.loop b) fr st Q := by
 obtain ⟨e, fr1, st1, h1, h2⟩ := h
 cases e with
 | normal =>
  obtain ⟨e2, fr2, st2, h3, h4⟩ := h2
  exact ⟨e2, fr2, st2, Q7 (by simp only [body, h1, h3]) rfl, h4⟩
 | exit id => exact ⟨_, _, _, Q7 (by simp only [body, h1]) rfl, h2⟩
 | ret => exact ⟨_, _, _, Q7 (by simp only [body, h1]) rfl, h2⟩
 | panic v => exact ⟨_, _, _, Q7 (by simp only [body, h1]) rfl, h2⟩
theorem DoR.inv [Memo] {b : Code} {Q : AE → Fr → St → Prop} (I : Nat → Fr → St → Prop) : ∀ (n : Nat) {fr : Fr} {st : St}, I n fr st →
  (∀ n fr st, I n fr st → DoR P rd b fr st (andThen (fun fr' st' => ∃ k, k < n ∧ I k fr' st') Q)) → DoR P rd (.loop b) fr st Q := by
 intro n
 induction n using Nat.strongRecOn with
 | _ n ih =>
  intro fr st h0 step
  refine DoR.loop ((step n fr st h0).mono fun e fr' st' h => ?_)
  cases e with
  | normal =>
   obtain ⟨k, hk, hi⟩ := h
   exact ih k hk hi step
  | exit id => exact h
  | ret => exact h
  | panic v => exact h
theorem DoR.region [Memo] {id : Nat} {ops : Array Oper} (h : OkR P rd ops ops.toList fr st (fun fr st => Q .normal fr st)) : DoR P rd (.region id ops false) fr st Q := by
 unfold OkR at h
 cases hx : Qr P (ihCall (W P)) rd ops ops.toList fr st with
 | ok fr1 st1 => rw [hx] at h; exact ⟨.normal, fr1, st1, Q7 (by simp only [body, hx]) rfl, h⟩
 | panic v fr1 st1 => rw [hx] at h; exact h.elim
 | fail w => rw [hx] at h; exact h.elim
theorem DoR.draw [Memo] {id : Nat} {ops : Array Oper} {b l : List Nat} (hb : QS ops = b) (hl : JcO P ops b = l) (hp : Jbb P ops b l = true)
  (h : match QM P (ihCall (W P)) ops b st.ctr l { fr := fr, st := { st with ctr := st.ctr + ops.size }, snaps := [(ops.size, { st with ctr := st.ctr + ops.size })] } with
   | some d => Q .normal d.fr d.st
   | none => False) : DoR P rd (.region id ops true) fr st Q := by
 subst hb
 subst hl
 cases hx : QM P (ihCall (W P)) ops (QS ops) st.ctr (JcO P ops (QS ops)) { fr := fr, st := { st with ctr := st.ctr + ops.size }, snaps := [(ops.size, { st with ctr := st.ctr + ops.size })] } with
 | none => rw [hx] at h; exact h.elim
 | some d => rw [hx] at h; exact ⟨.normal, d.fr, d.st, Q7 (by simp only [body, hp, hx]) rfl, h⟩
theorem DoR.up [Memo] {P : Program} {rd : Option Nat} {b : Code} {Q : AE → Fr → St → Prop} (N : Nat) (I : Nat → Fr → St → Prop) (i0 : Nat) {fr : Fr} {st : St} (h0 : I i0 fr st) (hb : ∀ i fr st, I i fr st → i ≤ N)
  (step : ∀ i fr st, I i fr st → DoR P rd b fr st (andThen (fun fr' st' => ∃ j, i < j ∧ I j fr' st') Q)) : DoR P rd (.loop b) fr st Q := by
 refine DoR.inv (fun n fr st => ∃ i, I i fr st ∧ n = N - i) (N - i0) ⟨i0, h0, rfl⟩ ?_
 rintro n fr st ⟨i, hi, rfl⟩
 refine (step i fr st hi).mono fun e fr' st' h => ?_
 cases e with
 | normal =>
  obtain ⟨j, hj, hij⟩ := h
  have := hb j _ _ hij
  exact ⟨N - j, by omega, j, hij, rfl⟩
 | exit id => exact h
 | ret => exact h
 | panic v => exact h
def Jp0 (id : Nat) (fr : Fr) (Q : AE → Fr → St → Prop) (st : St) : Prop :=
 ∃ s pend t ps a b, st.box.get id = some (.loop s pend t ps a b) ∧ s ≠ .busy ∧
  ((pend = none ∧ Q .normal fr (st.put id (.loop .exhausted pend t ps a b))) ∨ (pend = some .ret ∧ Q .ret fr (st.put id (.loop .exhausted pend t ps a b))) ∨
   ∃ x, pend = some (.exit x) ∧ Q (.exit x) fr (st.put id (.loop .exhausted pend t ps a b)))
theorem DoR.range [Memo] {g : Operand} {ps : Array Tmp} {a b : Code} {f : Nat} {first captured : List V} {id : Nat} {fr' : Fr} {st1 st2 : St} {v : V} (hg : ev fr g = some (.fn f first captured)) (hf : Qx P f = true)
  (he : JeU rd fr st ps.toList a b = some (id, fr', st1)) (hc : ihCall (W P) fr.gl (.f f) (first ++ [.yld id] ++ captured) st1 = .val v st2) (hl : Jp0 id fr' Q st2) : DoR P rd (.rangeFunc g ps a b) fr st Q := by
 obtain ⟨s, pend, t, ps', a', b', hb, hs, h⟩ := hl
 have hlv : Jgs id fr' st2 = (match pend with
   | none => .code .normal fr' (st2.put id (.loop .exhausted pend t ps' a' b'))
   | some .ret => .code .ret fr' (st2.put id (.loop .exhausted pend t ps' a' b'))
   | some (.exit x) => .code (.exit x) fr' (st2.put id (.loop .exhausted pend t ps' a' b'))
   | _ => .fail "a jump out of a range") := by
  simp only [Jgs, hb]
  cases s <;> first | exact absurd rfl hs | (cases pend with
   | none => rfl
   | some c => cases c <;> rfl)
 rcases h with ⟨rfl, h⟩ | ⟨rfl, h⟩ | ⟨x, rfl, h⟩
 ·exact ⟨_, _, _, Q7 (by simp only [body, hg, hf, he, hc, hlv]) rfl, h⟩
 ·exact ⟨_, _, _, Q7 (by simp only [body, hg, hf, he, hc, hlv]) rfl, h⟩
 ·exact ⟨_, _, _, Q7 (by simp only [body, hg, hf, he, hc, hlv]) rfl, h⟩
def Jgh (id : Nat) (R : Bool → St → Prop) (e : AE) (st : St) : Prop :=
 ∃ s pend t ps a b, st.box.get id = some (.loop s pend t ps a b) ∧
  ((e = .normal ∧ R true (st.put id (.loop .ready none t ps a b))) ∨ (e = .ret ∧ R false (st.put id (.loop .done (some .ret) t ps a b))) ∨
   ∃ x, e = .exit x ∧ R false (st.put id (.loop .done (some (.exit x)) t ps a b)))
theorem JmB [Memo] {gl : Gl} {id : Nat} {args : List V} {R : Bool → St → Prop} {s : LoopState} {pend : Option Code} {t : Tr V} {ps : List Tmp} {a b : Code} (hb : st.box.get id = some (.loop s pend t ps a b)) (hlen : args.length = ps.length)
  (h : DoR P (some id) a ⟨Jc6 ps args t, [], gl⟩ st fun e fr1 st1 => e = .normal ∧ ∃ pend' t' ps' a', st1.box.get id = some (.loop .ready pend' t' ps' a' b) ∧
   DoR P (some id) b fr1 (st1.put id (.loop .busy pend' t' ps' a' b)) fun e _ st2 => Jgh id R e st2) :
  ∃ v st', ihCall (W P) gl (.y id) args st = .val (.bool v) st' ∧ R v st' := by
 obtain ⟨e, fr1, st1, h1, rfl, pend', t', ps', a', hb1, e2, fr2, st2, h2, s3, p3, t3, ps3, a3, b3, hb3, h3⟩ := h
 have hbl : Nat.beq args.length ps.length = true := by rw [hlen, Nat.beq_refl]
 have key : ∀ (bv : Bool) (st4 : St), endRound id e2 st2 = .call (.val (.bool bv) st4) → ihCall (W P) gl (.y id) args st = .val (.bool bv) st4 := fun bv st4 he => by
  have hw : W P (.round gl id args) st = .call (.val (.bool bv) st4) := JnR (by
   simp only [body, hb, hbl, h1, hb1, h2]
   exact he) rfl
  simp [ihCall, hw]
 rcases h3 with ⟨rfl, h⟩ | ⟨rfl, h⟩ | ⟨x, rfl, h⟩
 ·exact ⟨_, _, key true _ (by simp only [endRound, hb3]), h⟩
 ·exact ⟨_, _, key false _ (by simp only [endRound, hb3]), h⟩
 ·exact ⟨_, _, key false _ (by simp only [endRound, hb3]), h⟩
def Jdw : List Df → St → Option St
 | [], st => some st
 | .mark id :: ds, st => match st.box.get id with
  | some (.mark false) => Jdw ds (st.put id (.mark true))
  | _ => none
 | _, _ => none
theorem Jef [Memo] {fn : Func} {fr : Fr} : ∀ {ds : List Df} {st st' : St}, Jdw ds st = some st' → ∀ {vs : List V}, Jd (Jv P fr st') fn.results.toList = some vs → Jas P (W P) fn fr ds .ret st = .call (.val (JD vs) st')
 | [], st, st', h, vs, hv => by
  obtain rfl := Option.some.inj h
  simp only [Jas, hv]
 | .mark id :: ds, st, st', h, vs, hv => by
  simp only [Jdw] at h
  split at h
  ·rename_i hb
   simp only [Jas, hb]
   exact Jef h hv
  ·cases h
 | .call f args :: ds, st, st', h, vs, hv => by cases h
theorem JmC [Memo] {gl : Gl} {f : Nat} {args : List V} {fn : Func} {c : Code} {R : V → St → Prop} (hn : (Memo.look f).run args st = none) (hf : P.funcs[f]? = some fn) (hb : fn.body = some c)
  (hs : (Nat.ble args.length fn.ntmps && Qg fn.ntmps c) = true)
  (h : DoR P none c (Jx gl args) st fun e fr' st'' => (e = .ret ∨ e = .normal) ∧ ∃ st3, Jdw fr'.ds st'' = some st3 ∧ ∃ vs, Jd (Jv P fr' st3) fn.results.toList = some vs ∧ R (JD vs) st3) :
  ∃ v st', W P (.call gl f args) st = .call (.val v st') ∧ R v st' := by
 obtain ⟨e, fr1, st1, h1, h2, st3, h3, vs, h4, h5⟩ := h
 refine ⟨_, _, JjC hn (r := .call (.val (JD vs) st3)) ?_ rfl, h5⟩
 simp only [body, hf, hb, hs, h1]
 rcases h2 with rfl | rfl <;> exact Jef h3 h4
end Go.Vm
namespace Go.Vm
open Go Go.RowKit
mutual
def JbS (ρ : Nat → Nat) : V → V
 | .ms id off n z cap => .ms (ρ id) off n z cap
 | .ptr id off => .ptr (ρ id) off
 | .yld id => .yld (ρ id)
 | .mapp id => .mapp (ρ id)
 | .sl n cs ex => .sl n (Jbm ρ cs) ex
 | .cp cs => .cp (Jbm ρ cs)
 | .agg cs => .agg (Jbm ρ cs)
 | .tup cs => .tup (Jbm ρ cs)
 | .fn f a b => .fn f (Jbm ρ a) (Jbm ρ b)
 | .iface t v => .iface t (JbS ρ v)
 | .bool b => .bool b
 | .int k n => .int k n
 | .str s => .str s
 | .nilp => .nilp | .nils => .nils | .nilf => .nilf | .nili => .nili | .nilm => .nilm
def Jbm (ρ : Nat → Nat) : List V → List V
 | [] => []
 | v :: r => JbS ρ v :: Jbm ρ r
end
mutual
def inV (p : Bool) (K : Nat → Bool) : V → Bool
 | .ms id _ _ _ _ => K id
 | .ptr id _ => K id
 | .yld id => K id
 | .mapp id => K id
 | .sl _ cs _ => p && Jct p K cs
 | .cp cs => p && Jct p K cs
 | .agg cs => Jct p K cs
 | .tup cs => Jct p K cs
 | .fn _ a b => Jct p K a && Jct p K b
 | .iface _ v => inV p K v
 | _ => true
def Jct (p : Bool) (K : Nat → Bool) : List V → Bool
 | [] => true
 | v :: r => inV p K v && Jct p K r
end
def Jeg (ρ : Nat → Nat) : Bx → Bx
 | .cells l e full fz => .cells (Jbm ρ l) e full fz
 | .entries l c => .entries (l.map fun (k, v, n) => (JbS ρ k, JbS ρ v, n)) c
 | x => x
def inB (p : Bool) (K : Nat → Bool) : Bx → Bool
 | .cells l _ _ _ => Jct p K l
 | .mark _ => true
 | .iter _ _ => true
 | .entries l _ => l.all fun (k, v, _) => inV p K k && inV p K v
 | _ => false
mutual
theorem R.renA {p : Bool} {K : Nat → Bool} {ρ : Nat → Nat} {g g' : Gh} (hb : ∀ i b, K i = true → g.box i = some b → g'.box (ρ i) = some b) (hp : p = true → ∀ b o c, g.pub b o = some c → g'.pub b o = some c) : ∀ (v : V) (c : Value), inV p K v = true → R g v c → R g' (JbS ρ v) c
 | .bool b, c, _, hr => by cases hr; exact .bool b
 | .int k n, c, _, hr => by cases hr; exact .int k n
 | .str l, c, _, hr => by cases hr; exact .str l
 | .nilp, c, _, hr => by cases hr; exact .nilp
 | .nils, c, _, hr => by cases hr; exact .nils
 | .nilf, c, _, hr => by cases hr; exact .nilf
 | .nili, c, _, hr => by cases hr; exact .nili
 | .nilm, c, _, hr => by cases hr; exact .nilm
 | .sl n cells ex, c, h, hr => by
  simp only [inV, Bool.and_eq_true] at h
  cases hr with
  | sl n cells ex b o cap l hr hpb hc ht => exact .sl n _ ex b o cap l (Rs.renA hb hp cells l h.2 hr) (fun i c hi => hp h.1 _ _ _ (hpb i c hi)) hc ht
  | sl0 ex a cap he => exact .sl0 ex a cap he
 | .ms id off n z cap, c, h, hr => by
  cases hr with
  | ms id off n z cap b o bs co c hbx hc ho hk => exact .ms _ off n z cap b o bs co c (hb _ _ h hbx) hc ho hk
 | .cp cells, c, h, hr => by
  simp only [inV, Bool.and_eq_true] at h
  cases hr with
  | cp cells b o l hr hpb => exact .cp _ b o l (Rs.renA hb hp cells l h.2 hr) fun i c hi => hp h.1 _ _ _ (hpb i c hi)
 | .ptr id off, c, h, hr => by
  cases hr with
  | ptr id off b o bs hbx => exact .ptr _ off b o bs (hb _ _ h hbx)
 | .agg cells, c, h, hr => by
  cases hr with
  | agg cells l hr => exact .agg _ l (Rs.renA hb hp cells l h hr)
 | .tup vs, c, h, hr => by
  cases hr with
  | tup vs l hr => exact .tup _ l (Rs.renA hb hp vs l h hr)
 | .fn f a b, c, h, hr => by
  simp only [inV, Bool.and_eq_true] at h
  cases hr with
  | fn f a b la lb ha hb' => exact .fn f _ _ la lb (Rs.renA hb hp a la h.1 ha) (Rs.renA hb hp b lb h.2 hb')
 | .yld id, c, h, hr => by
  cases hr with
  | yld id b o bs hbx => exact .yld _ b o bs (hb _ _ h hbx)
 | .mapp id, c, h, hr => by
  cases hr with
  | mapp id b o bs hbx => exact .mapp _ b o bs (hb _ _ h hbx)
 | .iface t x, c, h, hr => by
  cases hr with
  | iface t x y hx => exact .iface t _ y (R.renA hb hp x y h hx)
theorem Rs.renA {p : Bool} {K : Nat → Bool} {ρ : Nat → Nat} {g g' : Gh} (hb : ∀ i b, K i = true → g.box i = some b → g'.box (ρ i) = some b) (hp : p = true → ∀ b o c, g.pub b o = some c → g'.pub b o = some c) : ∀ (l : List V) (cs : List Value), Jct p K l = true → Rs g l cs → Rs g' (Jbm ρ l) cs
 | [], cs, _, hr => by cases hr; exact .nil
 | v :: r, cs, h, hr => by
  simp only [Jct, Bool.and_eq_true] at h
  cases hr with
  | cons _ c _ cs h1 h2 => exact .cons _ c _ cs (R.renA hb hp v c h.1 h1) (Rs.renA hb hp r cs h.2 h2)
end
theorem R.ren {p : Bool} {K : Nat → Bool} {ρ : Nat → Nat} {g g' : Gh} (hb : ∀ i b, K i = true → g.box i = some b → g'.box (ρ i) = some b) (hp : p = true → ∀ b o c, g.pub b o = some c → g'.pub b o = some c) {v : V} {c : Value} (h : inV p K v = true) (hr : R g v c) : R g' (JbS ρ v) c := R.renA hb hp v c h hr
theorem Rs.ren {p : Bool} {K : Nat → Bool} {ρ : Nat → Nat} {g g' : Gh} (hb : ∀ i b, K i = true → g.box i = some b → g'.box (ρ i) = some b) (hp : p = true → ∀ b o c, g.pub b o = some c → g'.pub b o = some c) {l : List V} {cs : List Value} (h : Jct p K l = true) (hr : Rs g l cs) : Rs g' (Jbm ρ l) cs := Rs.renA hb hp l cs h hr
theorem BR.ren {p : Bool} {K : Nat → Bool} {ρ : Nat → Nat} {g g' : Gh} (hb : ∀ i b, K i = true → g.box i = some b → g'.box (ρ i) = some b) (hp : p = true → ∀ b o c, g.pub b o = some c → g'.pub b o = some c) {o bs : Nat} {x : Bx} {m : Obj} (hx : inB p K x = true) (h : BR g o bs x m) : BR g' o bs (Jeg ρ x) m := by
 cases h with
 | cells cs e full fz pre mid rest f ho hr hs hf hz => exact .cells _ e full fz pre mid rest f ho (Rs.ren hb hp hx hr) hs hf hz
 | loop => simp [inB] at hx
 | opened => exact .opened
 | shut => exact .shut
 | entries l clock es h =>
  refine .entries _ _ _ ⟨by rw [List.length_map]; exact h.1, fun i k v n hi => ?_⟩
  rw [List.getElem?_map] at hi
  cases hl : l[i]? with
  | none => rw [hl] at hi; cases hi
  | some q =>
   rw [hl] at hi
   simp only [Option.map_some, Option.some.injEq, Prod.mk.injEq] at hi
   obtain ⟨rfl, rfl, rfl⟩ := hi
   obtain ⟨e, h1, h2, h3, h4⟩ := h.2 i q.1 q.2.1 q.2.2 hl
   simp only [inB, List.all_eq_true] at hx
   have := hx q (List.mem_of_getElem? hl)
   simp only [Bool.and_eq_true] at this
   exact ⟨e, h1, R.ren hb hp this.1 h2, R.ren hb hp this.2 h3, h4⟩
 | iter s pos ho => exact .iter s pos ho
mutual
theorem Jfw {p : Bool} {K : Nat → Bool} {ρ τ : Nat → Nat} (h : ∀ i, K i = true → τ (ρ i) = i) : ∀ v : V, inV p K v = true → JbS τ (JbS ρ v) = v
 | .ms id off n z cap, hv => by simp only [JbS, h id hv]
 | .ptr id off, hv => by simp only [JbS, h id hv]
 | .yld id, hv => by simp only [JbS, h id hv]
 | .mapp id, hv => by simp only [JbS, h id hv]
 | .sl n cs ex, hv => by simp only [inV, Bool.and_eq_true] at hv; simp only [JbS, Jbn h cs hv.2]
 | .cp cs, hv => by simp only [inV, Bool.and_eq_true] at hv; simp only [JbS, Jbn h cs hv.2]
 | .agg cs, hv => by simp only [JbS, Jbn h cs hv]
 | .tup cs, hv => by simp only [JbS, Jbn h cs hv]
 | .fn f a b, hv => by simp only [inV, Bool.and_eq_true] at hv; simp only [JbS, Jbn h a hv.1, Jbn h b hv.2]
 | .iface t v, hv => by simp only [JbS, Jfw h v hv]
 | .bool b, _ => rfl
 | .int k n, _ => rfl
 | .str s, _ => rfl
 | .nilp, _ => rfl
 | .nils, _ => rfl
 | .nilf, _ => rfl
 | .nili, _ => rfl
 | .nilm, _ => rfl
theorem Jbn {p : Bool} {K : Nat → Bool} {ρ τ : Nat → Nat} (h : ∀ i, K i = true → τ (ρ i) = i) : ∀ l : List V, Jct p K l = true → Jbm τ (Jbm ρ l) = l
 | [], _ => rfl
 | v :: r, hv => by
  simp only [Jct, Bool.and_eq_true] at hv
  simp only [Jbm, Jfw h v hv.1, Jbn h r hv.2]
end
mutual
theorem JhK {p : Bool} {K K' : Nat → Bool} {ρ : Nat → Nat} (h : ∀ i, K i = true → K' (ρ i) = true) : ∀ v : V, inV p K v = true → inV p K' (JbS ρ v) = true
 | .ms id off n z cap, hv => h id hv
 | .ptr id off, hv => h id hv
 | .yld id, hv => h id hv
 | .mapp id, hv => h id hv
 | .sl n cs ex, hv => by simp only [inV, JbS, Bool.and_eq_true] at hv ⊢; exact ⟨hv.1, JbT h cs hv.2⟩
 | .cp cs, hv => by simp only [inV, JbS, Bool.and_eq_true] at hv ⊢; exact ⟨hv.1, JbT h cs hv.2⟩
 | .agg cs, hv => JbT h cs hv
 | .tup cs, hv => JbT h cs hv
 | .fn f a b, hv => by simp only [inV, JbS, Bool.and_eq_true] at hv ⊢; exact ⟨JbT h a hv.1, JbT h b hv.2⟩
 | .iface t v, hv => JhK h v hv
 | .bool b, _ => rfl
 | .int k n, _ => rfl
 | .str s, _ => rfl
 | .nilp, _ => rfl
 | .nils, _ => rfl
 | .nilf, _ => rfl
 | .nili, _ => rfl
 | .nilm, _ => rfl
theorem JbT {p : Bool} {K K' : Nat → Bool} {ρ : Nat → Nat} (h : ∀ i, K i = true → K' (ρ i) = true) : ∀ l : List V, Jct p K l = true → Jct p K' (Jbm ρ l) = true
 | [], _ => rfl
 | v :: r, hv => by
  simp only [Jct, Jbm, Bool.and_eq_true] at hv ⊢
  exact ⟨JhK h v hv.1, JbT h r hv.2⟩
end
theorem JnS {p : Bool} {K K' : Nat → Bool} {ρ : Nat → Nat} (h : ∀ i, K i = true → K' (ρ i) = true) {x : Bx} (hx : inB p K x = true) : inB p K' (Jeg ρ x) = true := by
 cases x with
 | cells l e f z => exact JbT h l hx
 | loop => cases hx
 | mark b => rfl
 | iter s n => rfl
 | entries l c =>
  simp only [inB, Jeg, List.all_eq_true, List.mem_map] at hx ⊢
  rintro q ⟨q0, hq, rfl⟩
  have := hx q0 hq
  simp only [Bool.and_eq_true] at this ⊢
  exact ⟨JhK h _ this.1, JhK h _ this.2⟩
theorem JmD {p : Bool} {K : Nat → Bool} {ρ τ : Nat → Nat} (h : ∀ i, K i = true → τ (ρ i) = i) {x : Bx} (hx : inB p K x = true) : Jeg τ (Jeg ρ x) = x := by
 cases x with
 | cells l e f z => simp only [Jeg, Jbn h l hx]
 | loop => cases hx
 | mark b => rfl
 | iter s n => rfl
 | entries l c =>
  simp only [Jeg, List.map_map]
  congr 1
  rw [List.map_congr_left (g := id), List.map_id]
  intro q hq
  simp only [inB, List.all_eq_true] at hx
  have := hx q hq
  simp only [Bool.and_eq_true] at this
  simp only [Function.comp, Jfw h _ this.1, Jfw h _ this.2, id]
structure Moves (s0 s1 : St) (A K : Nat → Bool) (ρ : Nat → Nat) (st st' : St) : Prop where
 small : ∀ i, A i = true → i < s0.ctr ∧ s0.box.get i ≠ none
 all : ∀ i x, s0.box.get i = some x → A i = true ∧ inB true A x = true ∧ st.box.get (ρ i) = some (Jeg ρ x)
 low : ∀ i, A i = true → ρ i < st.ctr
 inj : ∀ i j, (A i = true ∨ K i = true) → (A j = true ∨ K j = true) → ρ i = ρ j → i = j
 high : ∀ i, s0.ctr ≤ i → K i = true → st.ctr ≤ ρ i ∧ ρ i < st'.ctr
 kept : ∀ i x, K i = true → s1.box.get i = some x → inB false K x = true ∧ st'.box.get (ρ i) = some (Jeg ρ x)
 gone : ∀ i, A i = true → (K i = false ∨ s1.box.get i = none) → st'.box.get (ρ i) = none
 kA : ∀ i, i < s0.ctr → K i = true → A i = true
 rest : ∀ j, j < st.ctr → (∀ i, A i = true → ρ i ≠ j) → st'.box.get j = st.box.get j
 new : ∀ j x, st.ctr ≤ j → st'.box.get j = some x → ∃ i y, s0.ctr ≤ i ∧ K i = true ∧ ρ i = j ∧ s1.box.get i = some y ∧ x = Jeg ρ y
 ctr : st.ctr ≤ st'.ctr
theorem JpB {P : Program} [Memo] (hm : P.follows .mixedOrders = true) (hmemo : ∀ base, JdV P base) {gl : Gl} (hon : Memo.only gl) (hgl0 : gl.allB (fun l => l.all (Jaq true 50)) = true) {f N : Nat} {args0 : List V} {v0 : V} {s0 s1 : St}
  (hx : X P N (.call gl f args0) s0 = .call (.val v0 s1)) {A K : Nat → Bool} {ρ : Nat → Nat} {st st' : St} (M : Moves s0 s1 A K ρ st st') (ha : Jct true A args0 = true) (hv : inV false K v0 = true)
  (hctr : ∀ i x, s0.box.get i = some x → i < s0.ctr) (base : Nat) (g : Gh) (w : World) (cargs : List Value) (hgl : GlV g gl) (hi : Inv base g st.abs w) (hrs : Rs g (Jbm ρ args0) cargs) :
  Calls P f ⟨cargs⟩ w (CallPost base g st.abs w (.val (JbS ρ v0) st')) := by
 have hs := sound hm base (hmemo _) N gl (.f f) args0 s0
 have hih : ihCall (X P N) gl (.f f) args0 s0 = .val v0 s1 := by simp [ihCall, hx]
 rw [hih] at hs
 let g0 : Gh := ⟨g.pub, fun i => match A i with | true => g.box (ρ i) | false => none⟩
 have hg0 : ∀ i, A i = true → g0.box i = g.box (ρ i) := fun i h => by simp only [g0, h]
 obtain ⟨τ, hτ⟩ : ∃ τ : Nat → Nat, ∀ i, A i = true → τ (ρ i) = i := by
  classical
  exact ⟨fun j => if h : ∃ i, A i = true ∧ ρ i = j then Classical.choose h else 0, fun i hi => by
   have h : ∃ i', A i' = true ∧ ρ i' = ρ i := ⟨i, hi, rfl⟩
   show (if h : ∃ i', A i' = true ∧ ρ i' = ρ i then Classical.choose h else 0) = i
   rw [dif_pos h]
   exact M.inj _ _ (.inl (Classical.choose_spec h).1) (.inl hi) (Classical.choose_spec h).2⟩
 obtain ⟨A', hA'⟩ : ∃ A' : Nat → Bool, ∀ j, A' j = true ↔ ∃ i, A i = true ∧ ρ i = j := by
  classical
  exact ⟨fun j => decide (∃ i, A i = true ∧ ρ i = j), fun j => decide_eq_true_iff⟩
 have hfwd : ∀ i, A i = true → A' (ρ i) = true := fun i hi => (hA' _).2 ⟨i, hi, rfl⟩
 have back : ∀ j b, A' j = true → g.box j = some b → g0.box (τ j) = some b := fun j b hj hb => by
  obtain ⟨i, hi, rfl⟩ := (hA' j).1 hj
  rw [hτ i hi, hg0 i hi]; exact hb
 have hpub : true = true → ∀ b o c, g.pub b o = some c → g0.pub b o = some c := fun _ _ _ _ h => h
 have ra : Rs g0 args0 cargs := by
  have := Rs.ren back hpub (JbT hfwd args0 ha) hrs
  rwa [Jbn hτ args0 ha] at this
 have i0 : Inv base g0 s0.abs w := by
  refine ⟨hi.size, hi.pub, fun i x h => ?_, fun i b o bs h => ?_, fun i j x y b o bs o' bs' h1 h2 h3 h4 => ?_, fun k hk => ?_⟩
  ·obtain ⟨hAi, hin, hst⟩ := M.all i x h
   obtain ⟨b, o, bs, m, q1, q2, q3⟩ := hi.box (ρ i) (Jeg ρ x) hst
   refine ⟨b, o, bs, m, by rw [hg0 i hAi]; exact q1, q2, ?_⟩
   have := BR.ren back hpub (JnS hfwd hin) q3
   rwa [JmD hτ hin] at this
  ·cases hAi : A i with
   | false => simp only [g0, hAi] at h; cases h
   | true => rw [hg0 i hAi] at h; exact hi.boxat _ _ _ _ h
  ·obtain ⟨hAi, _, hsi⟩ := M.all i x h1
   obtain ⟨hAj, _, hsj⟩ := M.all j y h2
   rw [hg0 i hAi] at h3
   rw [hg0 j hAj] at h4
   exact M.inj i j (.inl hAi) (.inl hAj) (hi.boxinj _ _ _ _ _ _ _ _ _ hsi hsj h3 h4)
  ·have hAk : A k = false := by
    cases hAk : A k with
    | false => rfl
    | true => have := (M.small k hAk).1; have hk : s0.ctr ≤ k := hk; omega
   refine ⟨by simp only [g0, hAk], ?_⟩
   show s0.box.get k = none
   cases hb : s0.box.get k with
   | none => rfl
   | some x => have := hctr k x hb; have hk : s0.ctr ≤ k := hk; omega
 have hglr : GlR g0 gl := ⟨fun k cs hk => by
  obtain ⟨l, h1, h2⟩ := hgl k cs hk
  exact ⟨l, Rs.carry (fun v c hv => R.carry (p := true) (g := g) (g' := g0) (fun _ b o c h => h) 50 v c hv) (Tr.allB_get _ gl k cs hgl0 hk) h1, h2⟩, hon⟩
 refine (hs g0 w cargs hglr i0 ra).mono ?_
 rintro en w' ⟨g1, c, rfl, h1, h2, h3⟩
 have hbox1 : ∀ i, A i = true → g1.box i = g.box (ρ i) := fun i hAi => by
  obtain ⟨hlt, hne⟩ := M.small i hAi
  cases hs0 : s0.box.get i with
  | none => exact absurd hs0 hne
  | some x =>
   obtain ⟨b, o, bs, m, q1, _, _⟩ := i0.box i x hs0
   rw [h3.le.box _ _ q1, ← q1, hg0 i hAi]
 obtain ⟨inv, hinv⟩ : ∃ inv : Nat → Option Nat, (∀ i, s0.ctr ≤ i → K i = true → inv (ρ i) = some i) ∧ ∀ j i, inv j = some i → s0.ctr ≤ i ∧ K i = true ∧ ρ i = j := by
  classical
  refine ⟨fun j => if h : ∃ i, s0.ctr ≤ i ∧ K i = true ∧ ρ i = j then some (Classical.choose h) else none, fun i hc hK => ?_, fun j i h => ?_⟩
  ·have h : ∃ i', s0.ctr ≤ i' ∧ K i' = true ∧ ρ i' = ρ i := ⟨i, hc, hK, rfl⟩
   show (if h : ∃ i', s0.ctr ≤ i' ∧ K i' = true ∧ ρ i' = ρ i then some (Classical.choose h) else none) = some i
   rw [dif_pos h]
   exact congrArg some (M.inj _ _ (.inr (Classical.choose_spec h).2.1) (.inr hK) (Classical.choose_spec h).2.2)
  ·by_cases hh : ∃ i, s0.ctr ≤ i ∧ K i = true ∧ ρ i = j
   ·have h : (if h : ∃ i, s0.ctr ≤ i ∧ K i = true ∧ ρ i = j then some (Classical.choose h) else none) = some i := h
    rw [dif_pos hh] at h
    obtain rfl := Option.some.inj h
    exact Classical.choose_spec hh
   ·have h : (if h : ∃ i, s0.ctr ≤ i ∧ K i = true ∧ ρ i = j then some (Classical.choose h) else none) = some i := h
    rw [dif_neg hh] at h
    cases h
 let g2 : Gh := ⟨g.pub, fun j => if j < st.ctr then g.box j else match inv j with | some i => g1.box i | none => none⟩
 have hg2l : ∀ j, j < st.ctr → g2.box j = g.box j := fun j hj => by simp only [g2, if_pos hj]
 have hg2h : ∀ i, s0.ctr ≤ i → K i = true → g2.box (ρ i) = g1.box i := fun i hc hK => by
  have := (M.high i hc hK).1
  simp only [g2, if_neg (show ¬ ρ i < st.ctr by omega), hinv.1 i hc hK]
 have hK2 : ∀ i b, K i = true → g1.box i = some b → g2.box (ρ i) = some b := fun i b hK hb => by
  by_cases hc : i < s0.ctr
  ·have hA := M.kA i hc hK
   rw [hg2l _ (M.low i hA), ← hbox1 i hA]; exact hb
  ·rw [hg2h i (by omega) hK]; exact hb
 have hlt : ∀ i b, g.box i = some b → i < st.ctr := fun i b h => by
  by_cases hc : i < st.ctr
  ·exact hc
  ·have := (hi.fresh i (by show st.ctr ≤ i; omega)).1
   rw [this] at h; cases h
 have hle : g.le g2 := ⟨fun _ _ _ h => h, fun i b h => by rw [hg2l i (hlt i b h)]; exact h⟩
 have hnp : false = true → ∀ b o c, g1.pub b o = some c → g2.pub b o = some c := fun h => by cases h
 have hown0 : ∀ b, Own g0 s0.abs b → Own g st.abs b := fun b ⟨i, x, o, bs, q1, q2⟩ => by
  obtain ⟨hAi, _, hst⟩ := M.all i x q1
  rw [hg0 i hAi] at q2
  exact ⟨ρ i, _, o, bs, hst, q2⟩
 have hcase : ∀ j x, st'.box.get j = some x → (j < st.ctr ∧ (∀ i, A i = true → ρ i ≠ j) ∧ st.box.get j = some x) ∨ ∃ i y, K i = true ∧ ρ i = j ∧ s1.box.get i = some y ∧ x = Jeg ρ y := fun j x h => by
  by_cases hj : j < st.ctr
  ·by_cases him : ∃ i, A i = true ∧ ρ i = j
   ·obtain ⟨i, hAi, rfl⟩ := him
    cases hK : K i with
    | false => rw [M.gone i hAi (.inl hK)] at h; cases h
    | true =>
     cases hs1 : s1.box.get i with
     | none => rw [M.gone i hAi (.inr hs1)] at h; cases h
     | some y =>
      rw [(M.kept i y hK hs1).2] at h
      exact .inr ⟨i, y, hK, rfl, hs1, (Option.some.inj h).symm⟩
   ·have hne : ∀ i, A i = true → ρ i ≠ j := fun i hA he => him ⟨i, hA, he⟩
    rw [M.rest j hj hne] at h
    exact .inl ⟨hj, hne, h⟩
  ·obtain ⟨i, y, hc, hK, hr, hs1, hxe⟩ := M.new j x (by omega) h
   exact .inr ⟨i, y, hK, hr, hs1, hxe⟩
 have hnotown : ∀ j x b o bs, j < st.ctr → (∀ i, A i = true → ρ i ≠ j) → st.box.get j = some x → g.box j = some (b, o, bs) → ¬ Own g0 s0.abs b := fun j x b o bs hj hne hst hb ⟨i, y, o', bs', q1, q2⟩ => by
  obtain ⟨hAi, _, hsti⟩ := M.all i y q1
  rw [hg0 i hAi] at q2
  exact hne i hAi (hi.boxinj _ _ _ _ _ _ _ _ _ hsti hst q2 hb)
 refine ⟨g2, c, rfl, R.ren hK2 hnp hv h1, ⟨h2.size, fun b o c hc => h2.pub b o c (h3.le.pub b o c hc), fun j x h => ?_, fun j b o bs h => ?_, fun i j x y b o bs o' bs' q1 q2 q3 q4 => ?_, fun k hk => ?_⟩, ⟨hle, M.ctr, h3.below, fun b hb hno => h3.own b hb fun h => hno (hown0 b h), fun b hb hown => ?_, fun i hic hnone => ?_⟩⟩
 ·rcases hcase j x h with ⟨hj, hne, hst⟩ | ⟨i, y, hK, rfl, hs1, rfl⟩
  ·obtain ⟨b, o, bs, m, q1, q2, q3⟩ := hi.box j x hst
   have hb := (hi.boxat j b o bs q1).2.1
   exact ⟨b, o, bs, m, by rw [hg2l j hj]; exact q1, by rw [h3.own b hb (hnotown j x b o bs hj hne hst q1)]; exact q2, q3.mono hle⟩
  ·obtain ⟨b, o, bs, m, q1, q2, q3⟩ := h2.box i y hs1
   exact ⟨b, o, bs, m, hK2 i _ hK q1, q2, BR.ren hK2 hnp (M.kept i y hK hs1).1 q3⟩
 ·by_cases hj : j < st.ctr
  ·rw [hg2l j hj] at h
   obtain ⟨q1, q2, q3⟩ := hi.boxat j b o bs h
   exact ⟨q1, Nat.lt_of_lt_of_le q2 h3.below.size, q3⟩
  ·simp only [g2, if_neg hj] at h
   cases hiv : inv j with
   | none => rw [hiv] at h; cases h
   | some i =>
    rw [hiv] at h
    obtain ⟨q1, q2, q3⟩ := h2.boxat i b o bs h
    refine ⟨q1, q2, fun o => ?_⟩
    cases hp : g.pub b o with
    | none => first | rfl | exact hp
    | some c => have := h3.le.pub b o c hp; rw [q3 o] at this; cases this
 ·
  have side : ∀ j x i y b o bs o' bs', j < st.ctr → (∀ i, A i = true → ρ i ≠ j) → st.box.get j = some x → g2.box j = some (b, o, bs) → K i = true → s1.box.get i = some y → g1.box i = some (b, o', bs') → False := fun j x i y b o bs o' bs' hj hne hst hb hK hs1 hb1 => by
   rw [hg2l j hj] at hb
   have hsz := (hi.boxat j b o bs hb).2.1
   exact hnotown j x b o bs hj hne hst hb (h3.noth b hsz ⟨i, y, o', bs', hs1, hb1⟩)
  have unG : ∀ i y b o bs, K i = true → s1.box.get i = some y → g2.box (ρ i) = some (b, o, bs) → g1.box i = some (b, o, bs) := fun i y b o bs hK hs1 hb => by
   obtain ⟨b1, o1, bs1, m, p1, _, _⟩ := h2.box i y hs1
   have := hK2 i _ hK p1
   rw [this] at hb
   rw [p1]; exact hb
  rcases hcase i x q1 with ⟨hj1, hne1, hst1⟩ | ⟨i1, y1, hK1, rfl, hs1, rfl⟩
  ·rcases hcase j y q2 with ⟨hj2, hne2, hst2⟩ | ⟨i2, y2, hK2', rfl, hs2, rfl⟩
   ·rw [hg2l i hj1] at q3
    rw [hg2l j hj2] at q4
    exact hi.boxinj _ _ _ _ _ _ _ _ _ hst1 hst2 q3 q4
   ·exact (side i x i2 y2 b o bs o' bs' hj1 hne1 hst1 q3 hK2' hs2 (unG i2 y2 _ _ _ hK2' hs2 q4)).elim
  ·rcases hcase j y q2 with ⟨hj2, hne2, hst2⟩ | ⟨i2, y2, hK2', rfl, hs2, rfl⟩
   ·exact (side j y i1 y1 b o' bs' o bs hj2 hne2 hst2 q4 hK1 hs1 (unG i1 y1 _ _ _ hK1 hs1 q3)).elim
   ·rw [h2.boxinj _ _ _ _ _ _ _ _ _ hs1 hs2 (unG i1 y1 _ _ _ hK1 hs1 q3) (unG i2 y2 _ _ _ hK2' hs2 q4)]
 ·have hk : st'.ctr ≤ k := hk
  have := M.ctr
  refine ⟨?_, ?_⟩
  ·have hkn : ¬ k < st.ctr := by omega
   simp only [g2, if_neg hkn]
   cases hiv : inv k with
   | none => rfl
   | some i =>
    obtain ⟨a1, a2, a3⟩ := hinv.2 k i hiv
    have := (M.high i a1 a2).2
    omega
  ·show st'.box.get k = none
   cases hb : st'.box.get k with
   | none => rfl
   | some x =>
    obtain ⟨i, y, a1, a2, a3, _⟩ := M.new k x (by omega) hb
    have := (M.high i a1 a2).2
    omega
 ·obtain ⟨j, x, o, bs, q1, q2⟩ := hown
  rcases hcase j x q1 with ⟨hj, hne, hst⟩ | ⟨i, y, hK, rfl, hs1, rfl⟩
  ·rw [hg2l j hj] at q2
   exact ⟨j, x, o, bs, hst, q2⟩
  ·obtain ⟨b1, o1, bs1, m, p1, _, _⟩ := h2.box i y hs1
   have hh := hK2 i _ hK p1
   rw [hh] at q2
   obtain ⟨rfl, rfl, rfl⟩ : b1 = b ∧ o1 = o ∧ bs1 = bs := by simpa using q2
   exact hown0 b1 (h3.noth b1 hb ⟨i, y, o1, bs1, hs1, p1⟩)
 ·have hic : i < st.ctr := hic
  have hnone : st.box.get i = none := hnone
  refine ⟨?_, hg2l i hic⟩
  show st'.box.get i = none
  rw [M.rest i hic]
  ·exact hnone
  ·intro k hA he
   obtain ⟨_, hne⟩ := M.small k hA
   cases hs0 : s0.box.get k with
   | none => exact hne hs0
   | some x =>
    have := (M.all k x hs0).2.2
    rw [he, hnone] at this; cases this
end Go.Vm
namespace Go.Vm
open Go Go.RowKit
def Shp (P : Program) : Nat → TypeId → List V → Prop
 | 0, _, _ => False
 | n + 1, t, vs =>
  match P.underlying t with
  | some .bool => ∃ b, vs = [.bool b]
  | some (.int k) => ∃ i, vs = [.int k i] ∧ (Lit.int k i).wf = true
  | some .string => ∃ s : S, vs = [.str s] ∧ s.n ≤ maxLen
  | some (.slice e) => vs = [.nils] ∨ ∃ ls : List (List V), vs = [.sl ls.length ls.flatten false] ∧ ls.length ≤ maxLen ∧ ∀ l ∈ ls, Shp P n e l
  | some (.struct fs) => ∃ ls : List (List V), vs = ls.flatten ∧ ls.length = fs.size ∧ ∀ (i : Nat) f l, fs[i]? = some f → ls[i]? = some l → Shp P n f.type l
  | _ => False
def JiE (P : Program) : List Field → Nat → Option Nat
 | [], c => some c
 | f :: r, c => if f.offset = c then JiE P r (c + P.cellsOf f.type) else none
def okT (P : Program) (T : List TypeId) : Bool := T.all fun t =>
 match P.underlying t with
 | some .bool | some (.int _) | some .string => true
 | some (.slice e) => T.contains e && decide (0 < P.cellsOf e)
 | some (.struct fs) => decide (JiE P fs.toList 0 = some (P.cellsOf t)) && fs.toList.all fun f => T.contains f.type
 | _ => false
end Go.Vm
namespace Go.Vm
open Go
mutual
def vtot : V → Nat
 | .str s => s.n + 1
 | .sl _ cs _ => vtots cs + 1
 | .cp cs => vtots cs + 1
 | .agg cs => vtots cs + 1
 | .tup cs => vtots cs + 1
 | .fn _ a b => vtots a + vtots b + 2
 | .iface _ x => vtot x + 1
 | _ => 1
def vtots : List V → Nat
 | [] => 0
 | a :: r => vtot a + vtots r
end
mutual
theorem JhL : ∀ v : V, vsz v + 1 ≤ 3 * vtot v
 | .sl m cs ex => by have := JcL cs; rw [vsz, vtot]; omega
 | .cp cs => by have := JcL cs; rw [vsz, vtot]; omega
 | .agg cs => by have := JcL cs; rw [vsz, vtot]; omega
 | .tup cs => by have := JcL cs; rw [vsz, vtot]; omega
 | .fn f a b => by have := JcL a; have := JcL b; rw [vsz, vtot]; omega
 | .iface t x => by have := JhL x; rw [vsz, vtot]; omega
 | .str s => by show 1 + 1 ≤ 3 * (s.n + 1); omega
 | .bool _ => by show 1 + 1 ≤ 3 * 1; omega
 | .int _ _ => by show 1 + 1 ≤ 3 * 1; omega
 | .nilp => by show 1 + 1 ≤ 3 * 1; omega
 | .nils => by show 1 + 1 ≤ 3 * 1; omega
 | .nilf => by show 1 + 1 ≤ 3 * 1; omega
 | .nili => by show 1 + 1 ≤ 3 * 1; omega
 | .nilm => by show 1 + 1 ≤ 3 * 1; omega
 | .ms _ _ _ _ _ => by show 1 + 1 ≤ 3 * 1; omega
 | .ptr _ _ => by show 1 + 1 ≤ 3 * 1; omega
 | .yld _ => by show 1 + 1 ≤ 3 * 1; omega
 | .mapp _ => by show 1 + 1 ≤ 3 * 1; omega
theorem JcL : ∀ l : List V, JdK l ≤ 3 * vtots l + 1
 | [] => by rw [JdK, vtots]; omega
 | a :: r => by have := JhL a; have := JcL r; rw [JdK, vtots]; omega
end
theorem JbX : ∀ l m : List V, vtots (l ++ m) = vtots l + vtots m
 | [], m => by simp [vtots]
 | a :: l, m => by rw [List.cons_append, vtots, vtots, JbX l m]; omega
theorem Jhd {α : Type} {f : α → List V} : ∀ {l : List α} {a : α}, a ∈ l → vtots (f a) ≤ vtots (l.flatMap f)
 | b :: l, a, h => by
  rw [List.flatMap_cons, JbX]
  rcases List.mem_cons.1 h with rfl | h
  ·omega
  ·have := Jhd (f := f) h; omega
end Go.Vm
