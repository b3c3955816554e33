/- Lemmas for walks of any seat: loops with a rising index, strings, bytes, a draw's values. -/
import Derived.Test.YtlmmgpmioaecnaaGreatDoorVmWv
import Derived.Test.YtlmmgpmioaecnaaGreatDoorVmMemo
import Derived.Test.YtlmmgpmioaecnaaGreatDoorChecked
namespace Go.Vm
open Go
theorem Does.up [Memo] {P : Program} {b : Code} {Q : AE → Fr → St → Prop} (N : Nat) (I : Nat → Fr → St → Prop) (i0 : Nat) {fr : Fr} {st : St} (h0 : I i0 fr st) (hb : ∀ i fr st, I i fr st → i ≤ N)
  (step : ∀ i fr st, I i fr st → Does P b fr st (andThen (fun fr' st' => ∃ j, i < j ∧ I j fr' st') Q)) : Does P (.loop b) fr st Q := by
 refine Does.inv (fun n fr st => ∃ i, I i fr st ∧ n = N - i) (N - i0) ⟨i0, h0, rfl⟩ ?_
 rintro n fr st ⟨i, hi, rfl⟩
 refine (step i fr st hi).mono fun e fr' st' h => ?_
 cases e with
 | normal =>
  obtain ⟨j, hj, hij⟩ := h
  have := hb j _ _ hij
  exact ⟨N - j, by omega, j, hij, rfl⟩
 | exit id => exact h
 | ret => exact h
 | panic v => exact h
theorem S.drop_at (s : S) {i : Nat} (h : i < s.n) : s.toList.drop i = UInt8.ofNat (s.at i) :: s.toList.drop (i + 1) := by
 have h1 := s.toList_at h
 have h2 : i < s.toList.length := by simpa using h
 rw [List.drop_eq_getElem_cons h2]
 rw [List.getElem?_eq_getElem h2] at h1
 rw [Option.some.inj h1]
theorem JbA {a b : Nat} (ha : a < 256) (hb : b < 256) : (UInt8.ofNat a = UInt8.ofNat b) ↔ a = b := by
 constructor
 ·intro h
  have := congrArg UInt8.toNat h
  simp at this; omega
 ·rintro rfl; rfl
theorem JhI {P : Program} {T : TypeId} (hT : P.underlying T = some .string) {s : S} {lo hi : Nat} (h1 : lo ≤ hi) (h2 : hi ≤ s.n) {k k' : IntKind} : QA P T (.str s) (some (.int k (lo : Int))) (some (.int k' (hi : Int))) = some (.str (s.cut lo hi)) := by
 have e1 : Nat.ble lo hi = true := Nat.ble_eq_true_of_le h1
 have e2 : Nat.ble hi s.n = true := Nat.ble_eq_true_of_le h2
 simp only [QA, hT, JH, Qa, e1, e2, Bool.and_self]
theorem Jda {P : Program} {T : TypeId} (hT : P.underlying T = some .string) {s : S} {lo : Nat} (h1 : lo ≤ s.n) {k : IntKind} : QA P T (.str s) (some (.int k (lo : Int))) none = some (.str (s.cut lo s.n)) := by
 have e1 : Nat.ble lo s.n = true := Nat.ble_eq_true_of_le h1
 simp only [QA, hT, JH, Qa, e1, Jaq, Bool.and_self]
theorem Jei {P : Program} {T : TypeId} (hT : P.underlying T = some .string) {s : S} {hi : Nat} (h2 : hi ≤ s.n) {k' : IntKind} : QA P T (.str s) none (some (.int k' (hi : Int))) = some (.str (s.cut 0 hi)) := by
 have e1 : Nat.ble 0 hi = true := Nat.ble_eq_true_of_le (Nat.zero_le _)
 have e2 : Nat.ble hi s.n = true := Nat.ble_eq_true_of_le h2
 simp only [QA, hT, JH, Qa, e1, e2, Bool.and_self]
theorem JeD (s : S) {i : Nat} (h : i ≤ s.n) : (s.cut i s.n).toList = s.toList.drop i := by
 rw [S.toList_cut s h (Nat.le_refl _), List.take_of_length_le (by simp)]
theorem JhJ (s : S) (i j : Nat) : (s.cut i j).n = j - i := rfl
theorem Keep.tick {a b : St} (h : Keep a b) (n : Nat) : Keep a { b with ctr := b.ctr + n } := ⟨Nat.le_trans h.ctr (Nat.le_add_right ..), h.box⟩
theorem JbB (c : UInt8) : ∀ l : List UInt8, Lib.indexByte l c = if c ∈ l then ((l.takeWhile (· ≠ c)).length : Int) else -1
 | [] => rfl
 | b :: l => by
  rw [Lib.indexByte, JbB c l]
  by_cases h : b = c
  ·subst h; simp
  ·have h' : (b == c) = false := by simpa using h
   by_cases hm : c ∈ l
   ·rw [h']
    have : ¬ ((List.takeWhile (fun x => decide (x ≠ c)) l).length : Int) = -1 := by omega
    simp only [Bool.false_eq_true, if_false, List.mem_cons, hm, or_true, if_true, beq_iff_eq, this]
    rw [List.takeWhile_cons_of_pos (by simp [h])]
    simp
   ·have h2 : ¬ c = b := fun h2 => h h2.symm
    simp [h', hm, h2]
theorem Jcv (l : List UInt8) (c : UInt8) : (0 ≤ Lib.indexByte l c) ↔ c ∈ l := by
 rw [JbB]
 by_cases h : c ∈ l
 ·simp [h]
 ·simp [h]
mutual
def vsz : V → Nat
 | .sl _ cs _ => Jbb cs + 1
 | .cp cs => Jbb cs + 1
 | .agg cs => Jbb cs + 1
 | .tup cs => Jbb cs + 1
 | .fn _ a b => Jbb a + Jbb b + 1
 | .iface _ x => vsz x + 1
 | _ => 1
def Jbb : List V → Nat
 | [] => 1
 | a :: r => vsz a + Jbb r + 1
end
mutual
theorem Jfn : ∀ (n : Nat) (v : V), vsz v < n → veq n v v = true
 | 0, _, h => by omega
 | n + 1, v, h => by
  cases v with
  | sl m cs ex =>
   simp only [vsz] at h
   have := Jbc n cs (by omega)
   simp [veq, this]
  | cp cs =>
   simp only [vsz] at h
   have := Jbc n cs (by omega)
   simp [veq, this]
  | agg cs =>
   simp only [vsz] at h
   have := Jbc n cs (by omega)
   simp [veq, this]
  | tup cs =>
   simp only [vsz] at h
   have := Jbc n cs (by omega)
   simp [veq, this]
  | fn f a b =>
   simp only [vsz] at h
   have h1 := Jbc n a (by omega)
   have h2 := Jbc n b (by omega)
   simp [veq, h1, h2]
  | iface t x =>
   simp only [vsz] at h
   have := Jfn n x (by omega)
   simp [veq, this]
  | _ => simp [veq]
theorem Jbc : ∀ (n : Nat) (l : List V), Jbb l < n → Jdm n l l = true
 | 0, _, h => by omega
 | n + 1, [], _ => by simp [Jdm]
 | n + 1, a :: r, h => by
  simp only [Jbb] at h
  have h1 := Jfn n a (by omega)
  have h2 := Jbc n r (by omega)
  simp [Jdm, h1, h2]
end
theorem Jag (v : V) (h : vsz v < 1000000000) : veq 1000000000 v v = true := Jfn _ v h
theorem JX (s : S) : veq 1000000000 (.str s) (.str s) = true := by simp [veq]
theorem J2 (k : IntKind) (n : Int) : veq 1000000000 (.int k n) (.int k n) = true := by simp [veq]
theorem Jb3 {p : UInt8 → Bool} : ∀ {l : List UInt8}, (∀ x ∈ l, p x = true) → l.takeWhile p = l
 | [], _ => rfl
 | a :: l, h => by
  rw [List.takeWhile_cons_of_pos (h a (List.mem_cons_self ..)), Jb3 fun x hx => h x (List.mem_cons_of_mem _ hx)]
theorem JbI {P : Program} {kk : Bool} {T : TypeId} {x y : S} (h : x.n + y.n < 1000000000) : Je P kk .add T (.str x) (.str y) = some (.str (x.app y)) := by
 have : Nat.ble (Nat.add x.n y.n) maxStr = true := Nat.ble_eq_true_of_le (by show x.n + y.n ≤ maxStr; simp only [maxStr]; omega)
 simp only [Je, this]
theorem Oks.cont [Memo] {P : Program} {ops : Array Oper} {l : List Oper} {fr : Fr} {st : St} {Q R : Fr → St → Prop} (h : Oks P ops l fr st Q) (k : ∀ fr' st', Q fr' st' → R fr' st') : Oks P ops l fr st R := by
 unfold Oks at h ⊢
 split at h
 ·exact k _ _ h
 ·exact h
theorem Q4 {α β : Type} (P : Program) : ∀ (s : Sem α) (f : α → Sem β), QI P (s >>= f) = (QI P s).bind (fun a => QI P (f a)) := by
 intro s
 induction s with
 | pure a => intro f; rfl
 | program k ih => intro f; exact ih P f
 | mark m k ih => intro f; exact ih f
 | _ => intro f; rfl
theorem Jdy {α : Type} (P : Program) (a : α) : QI P (pure a) = some a := rfl
theorem Jgc (P : Program) : QI P program = some P := rfl
theorem Q6 {P : Program} {t : TypeId} {d : TypeDesc} (h : P.underlying t = some d) : QI P (underlying t) = some d := by
 simp [underlying, Q4, Jgc, h, Jdy]
end Go.Vm
namespace Go.Vm
open Go
section
variable {P : Program} {kk : Bool} {T : TypeId} {q : IntKind} {c m : Nat} {k : Int}
theorem JE (h : k = (m : Int)) : Je P kk .eql T (.int q (c : Int)) (.int q k) = some (.bool (decide (c = m))) := by subst h; rw [Jc0]; congr 2; simp; omega
theorem Jdz (h : k = (m : Int)) : Je P kk .neq T (.int q (c : Int)) (.int q k) = some (.bool (!decide (c = m))) := by subst h; rw [JfW]; congr 3; simp; omega
theorem QN (h : k = (m : Int)) : Je P kk .lss T (.int q (c : Int)) (.int q k) = some (.bool (decide (c < m))) := by subst h; rw [JbS]; congr 2; simp
theorem JbL (h : k = (m : Int)) : Je P kk .leq T (.int q (c : Int)) (.int q k) = some (.bool (decide (c ≤ m))) := by subst h; rw [JbT]; congr 2; simp
theorem Jbd (h : k = (m : Int)) : Je P kk .gtr T (.int q (c : Int)) (.int q k) = some (.bool (decide (m < c))) := by subst h; rw [JaQ]; congr 2; simp
theorem Jb4 (h : k = (m : Int)) : Je P kk .geq T (.int q (c : Int)) (.int q k) = some (.bool (decide (m ≤ c))) := by subst h; rw [JaR]; congr 2; simp
end
theorem JkF {P : Program} {kk : Bool} {T : TypeId} {c : Nat} (hc : c < 256) : Je P kk .or T (.int .u8 (c : Int)) (.int .u8 32) = some (.int .u8 ((c ||| 32 : Nat) : Int)) := by
 have h : Je P kk .or T (.int .u8 (c : Int)) (.int .u8 32) = QJ P (fun l => binOp .or T (l.getD 0 undef) (l.getD 1 undef)) [.int .u8 (c : Int), .int .u8 32] := by simp [Je]
 rw [h]
 simp only [QJ, Jc, ofV]
 have h2 : QI P (binOp .or T (.int .u8 (c : Int)) (.int .u8 32)) = some (.int .u8 (IntKind.u8.wrap (((BitVec.ofInt 8 (c : Int)) ||| (BitVec.ofInt 8 32)).toNat : Int))) := by rfl
 have h3 : ∀ c : Nat, c < 256 → IntKind.u8.wrap (((BitVec.ofInt 8 (c : Int)) ||| (BitVec.ofInt 8 32)).toNat : Int) = ((c ||| 32 : Nat) : Int) := by decide +kernel
 show (match QI P (binOp .or T (.int .u8 (c : Int)) (.int .u8 32)) with
  | some v => toV 6 v
  | none => none) = _
 rw [h2, h3 c hc]
 rfl
end Go.Vm
namespace Go.Vm
open Go
theorem QW [Memo] {P : Program} {rd : Option Nat} {c : Code} {fr : Fr} {st : St} {r : Res} (h : body P (W P) (.code rd c fr) st = r) (hr : Jib r = true) : W P (.code rd c fr) st = r := by
 rcases Jj1 (JnE P) rd c fr st with ⟨w, hw⟩ | he
 ·rw [hw] at h; subst h; cases hr
 ·refine JnD hr (.step (he.mono fun m hm => ?_))
  rw [← h, ← hm]
  rfl
def DoR [Memo] (P : Program) (rd : Option Nat) (c : Code) (fr : Fr) (st : St) (Q : AE → Fr → St → Prop) : Prop := ∃ e fr' st', W P (.code rd c fr) st = .code e fr' st' ∧ Q e fr' st'
def OkR [Memo] (P : Program) (rd : Option Nat) (ops : Array Oper) (l : List Oper) (fr : Fr) (st : St) (Q : Fr → St → Prop) : Prop :=
 match J8 P (ihCall (W P)) rd ops l fr st with
 | .ok fr' st' => Q fr' st'
 | _ => False
variable {P : Program} {rd : Option Nat} {fr : Fr} {st : St} {Q : AE → Fr → St → Prop}
theorem DoR.mono [Memo] {c : Code} {R : AE → Fr → St → Prop} (h : DoR P rd c fr st Q) (k : ∀ e fr' st', Q e fr' st' → R e fr' st') : DoR P rd c fr st R := by
 obtain ⟨e, fr', st', h1, h2⟩ := h
 exact ⟨e, fr', st', h1, k _ _ _ h2⟩
theorem DoR.skip [Memo] (h : Q .normal fr st) : DoR P rd .skip fr st Q := ⟨_, _, _, QW rfl rfl, h⟩
theorem DoR.exit [Memo] {id : Nat} (h : Q (.exit id) fr st) : DoR P rd (.exit id) fr st Q := ⟨_, _, _, QW rfl rfl, h⟩
theorem DoR.ret [Memo] (h : Q .ret fr st) : DoR P rd .ret fr st Q := ⟨_, _, _, QW rfl rfl, h⟩
theorem DoR.seq [Memo] {a b : Code} (h : DoR P rd a fr st (andThen (fun fr st => DoR P rd b fr st Q) Q)) : DoR P rd (.seq a b) fr st Q := by
 obtain ⟨e, fr1, st1, h1, h2⟩ := h
 cases e with
 | normal =>
  obtain ⟨e2, fr2, st2, h3, h4⟩ := h2
  exact ⟨e2, fr2, st2, QW (by simp only [body, h1, h3]) rfl, h4⟩
 | exit id => exact ⟨_, _, _, QW (by simp only [body, h1]) rfl, h2⟩
 | ret => exact ⟨_, _, _, QW (by simp only [body, h1]) rfl, h2⟩
 | panic v => exact ⟨_, _, _, QW (by simp only [body, h1]) rfl, h2⟩
theorem DoR.condT [Memo] {x : Operand} {a b : Code} (hx : ev fr x = some (.bool true)) (h : DoR P rd a fr st Q) : DoR P rd (.cond x a b) fr st Q := by
 obtain ⟨e, fr1, st1, h1, h2⟩ := h
 exact ⟨e, fr1, st1, QW (by simp only [body, hx, h1]) rfl, h2⟩
theorem DoR.condF [Memo] {x : Operand} {a b : Code} (hx : ev fr x = some (.bool false)) (h : DoR P rd b fr st Q) : DoR P rd (.cond x a b) fr st Q := by
 obtain ⟨e, fr1, st1, h1, h2⟩ := h
 exact ⟨e, fr1, st1, QW (by simp only [body, hx, h1]) rfl, h2⟩
theorem DoR.block [Memo] {id : Nat} {b : Code} (h : DoR P rd b fr st (inBlock id Q)) : DoR P rd (.block id b) fr st Q := by
 obtain ⟨e, fr1, st1, h1, h2⟩ := h
 cases e with
 | normal => exact ⟨_, _, _, QW (by simp only [body, h1]) rfl, h2⟩
 | exit j =>
  simp only [inBlock] at h2
  by_cases hj : j = id
  ·subst hj
   simp only [if_true] at h2
   exact ⟨.normal, fr1, st1, QW (by simp only [body, h1, Nat.beq_refl]) rfl, h2⟩
  ·simp only [hj, if_false] at h2
   have : Nat.beq j id = false := by rw [Je9]; exact decide_eq_false hj
   exact ⟨.exit j, fr1, st1, QW (by simp only [body, h1, this]) rfl, h2⟩
 | ret => exact ⟨_, _, _, QW (by simp only [body, h1]) rfl, h2⟩
 | panic v => exact ⟨_, _, _, QW (by simp only [body, h1]) rfl, h2⟩
theorem DoR.loop [Memo] {b : Code} (h : DoR P rd b fr st (andThen (fun fr st => DoR P rd (.loop b) fr st Q) Q)) : DoR P rd (.loop b) fr st Q := by
 obtain ⟨e, fr1, st1, h1, h2⟩ := h
 cases e with
 | normal =>
  obtain ⟨e2, fr2, st2, h3, h4⟩ := h2
  exact ⟨e2, fr2, st2, QW (by simp only [body, h1, h3]) rfl, h4⟩
 | exit id => exact ⟨_, _, _, QW (by simp only [body, h1]) rfl, h2⟩
 | ret => exact ⟨_, _, _, QW (by simp only [body, h1]) rfl, h2⟩
 | panic v => exact ⟨_, _, _, QW (by simp only [body, h1]) rfl, h2⟩
theorem DoR.inv [Memo] {b : Code} {Q : AE → Fr → St → Prop} (I : Nat → Fr → St → Prop) : ∀ (n : Nat) {fr : Fr} {st : St}, I n fr st →
  (∀ n fr st, I n fr st → DoR P rd b fr st (andThen (fun fr' st' => ∃ k, k < n ∧ I k fr' st') Q)) → DoR P rd (.loop b) fr st Q := by
 intro n
 induction n using Nat.strongRecOn with
 | _ n ih =>
  intro fr st h0 step
  refine DoR.loop ((step n fr st h0).mono fun e fr' st' h => ?_)
  cases e with
  | normal =>
   obtain ⟨k, hk, hi⟩ := h
   exact ih k hk hi step
  | exit id => exact h
  | ret => exact h
  | panic v => exact h
theorem DoR.region [Memo] {id : Nat} {ops : Array Oper} (h : OkR P rd ops ops.toList fr st (fun fr st => Q .normal fr st)) : DoR P rd (.region id ops false) fr st Q := by
 unfold OkR at h
 cases hx : J8 P (ihCall (W P)) rd ops ops.toList fr st with
 | ok fr1 st1 => rw [hx] at h; exact ⟨.normal, fr1, st1, QW (by simp only [body, hx]) rfl, h⟩
 | panic v fr1 st1 => rw [hx] at h; exact h.elim
 | fail w => rw [hx] at h; exact h.elim
theorem DoR.draw [Memo] {id : Nat} {ops : Array Oper} {b l : List Nat} (hb : Qr ops = b) (hl : JcK P ops b = l) (hp : Ja7 P ops b l = true)
  (h : match J9 P (ihCall (W P)) ops b st.ctr l { fr := fr, st := { st with ctr := st.ctr + ops.size }, snaps := [(ops.size, { st with ctr := st.ctr + ops.size })] } with
   | some d => Q .normal d.fr d.st
   | none => False) : DoR P rd (.region id ops true) fr st Q := by
 subst hb
 subst hl
 cases hx : J9 P (ihCall (W P)) ops (Qr ops) st.ctr (JcK P ops (Qr ops)) { fr := fr, st := { st with ctr := st.ctr + ops.size }, snaps := [(ops.size, { st with ctr := st.ctr + ops.size })] } with
 | none => rw [hx] at h; exact h.elim
 | some d => rw [hx] at h; exact ⟨.normal, d.fr, d.st, QW (by simp only [body, hp, hx]) rfl, h⟩
theorem DoR.up [Memo] {P : Program} {rd : Option Nat} {b : Code} {Q : AE → Fr → St → Prop} (N : Nat) (I : Nat → Fr → St → Prop) (i0 : Nat) {fr : Fr} {st : St} (h0 : I i0 fr st) (hb : ∀ i fr st, I i fr st → i ≤ N)
  (step : ∀ i fr st, I i fr st → DoR P rd b fr st (andThen (fun fr' st' => ∃ j, i < j ∧ I j fr' st') Q)) : DoR P rd (.loop b) fr st Q := by
 refine DoR.inv (fun n fr st => ∃ i, I i fr st ∧ n = N - i) (N - i0) ⟨i0, h0, rfl⟩ ?_
 rintro n fr st ⟨i, hi, rfl⟩
 refine (step i fr st hi).mono fun e fr' st' h => ?_
 cases e with
 | normal =>
  obtain ⟨j, hj, hij⟩ := h
  have := hb j _ _ hij
  exact ⟨N - j, by omega, j, hij, rfl⟩
 | exit id => exact h
 | ret => exact h
 | panic v => exact h
end Go.Vm
namespace Go.Vm
open Go
def Fs (gl : Gl) : List (Nat × V) → Fr → Prop
 | [], fr => fr.ds = [] ∧ fr.gl = gl
 | (k, v) :: r, fr => Fr.at fr k = v ∧ Fs gl r fr
def Sm (st st' : St) : Prop := st' = st
variable {P : Program} {rd : Option Nat} {fr : Fr} {st : St} {Q : AE → Fr → St → Prop}
def Says [Memo] (P : Program) (gl : Gl) (f : Nat) (args : List V) (st : St) (R : V → St → Prop) : Prop := ∃ v st', W P (.call gl f args) st = .call (.val v st') ∧ R v st'
theorem Says.use [Memo] {gl : Gl} {f : Nat} {args : List V} {R : V → St → Prop} (h : Says P gl f args st R) (hk : Jg P f = true := by kernel_rfl) : ∃ v st', JaA P (ihCall (W P)) gl f args st = .val v st' ∧ R v st' := by
 obtain ⟨v, st', h1, h2⟩ := h
 exact ⟨v, st', by rw [Ja hk, Jh h1], h2⟩
theorem Says.mono [Memo] {gl : Gl} {f : Nat} {args : List V} {R R' : V → St → Prop} (h : Says P gl f args st R) (k : ∀ v st', R v st' → R' v st') : Says P gl f args st R' := by
 obtain ⟨v, st', h1, h2⟩ := h
 exact ⟨v, st', h1, k _ _ h2⟩
def JW (P : Program) (fn : Func) (R : V → St → Prop) (e : AE) (fr : Fr) (st : St) : Prop := (e = .ret ∨ e = .normal) ∧ fr.ds = [] ∧ ∃ vs, Jc (Jw P fr st) fn.results.toList = some vs ∧ R (Jz vs) st
theorem Jod [Memo] {gl : Gl} {f : Nat} {args : List V} {fn : Func} {c : Code} {R : V → St → Prop} (hn : (Memo.look f).run args st = none) (hf : P.funcs[f]? = some fn) (hb : fn.body = some c)
  (hs : (Nat.ble args.length fn.ntmps && JV fn.ntmps c) = true) (h : DoR P none c (JC gl args) st (JW P fn R)) : Says P gl f args st R := J3 hn hf hb hs h
theorem JoT [Memo] {ops : Array Oper} (a : List Oper) : ∀ (b : List Oper) (fr : Fr) (st : St), J8 P (ihCall (W P)) rd ops (a ++ b) fr st =
  match J8 P (ihCall (W P)) rd ops a fr st with
  | .ok fr1 st1 => J8 P (ihCall (W P)) rd ops b fr1 st1
  | r => r := by
 induction a with
 | nil => intro b fr st; rfl
 | cons o r ih =>
  intro b fr st
  simp only [List.cons_append, J8]
  cases Jj ops fr o with
  | false => exact ih ..
  | true =>
   cases Jo o.op with
   | false =>
    cases vop P (ihCall (W P)) fr st o.op with
    | val v st' => exact ih ..
    | panic v st' => rfl
    | fail w => rfl
   | true =>
    generalize Jcx P fr o.op = d
    cases rd with
    | some r => rfl
    | none => cases d with
     | none => rfl
     | some d => exact ih ..
section
variable {kk : Bool} {T : TypeId} {q : IntKind} {a b : Nat}
theorem Qn : Je P kk .eql T (.int q (a : Int)) (.int q (b : Int)) = some (.bool (decide (a = b))) := JE rfl
theorem Qo : Je P kk .neq T (.int q (a : Int)) (.int q (b : Int)) = some (.bool (!decide (a = b))) := Jdz rfl
theorem Qt : Je P kk .lss T (.int q (a : Int)) (.int q (b : Int)) = some (.bool (decide (a < b))) := QN rfl
theorem Qp : Je P kk .leq T (.int q (a : Int)) (.int q (b : Int)) = some (.bool (decide (a ≤ b))) := JbL rfl
theorem Qu : Je P kk .gtr T (.int q (a : Int)) (.int q (b : Int)) = some (.bool (decide (b < a))) := Jbd rfl
theorem Qv : Je P kk .geq T (.int q (a : Int)) (.int q (b : Int)) = some (.bool (decide (b ≤ a))) := Jb4 rfl
theorem JN : Je P kk .eql T (.int q (a : Int)) (.int q (no_index (OfNat.ofNat b : Int))) = some (.bool (decide (a = OfNat.ofNat b))) := JE rfl
theorem Qw : Je P kk .neq T (.int q (a : Int)) (.int q (no_index (OfNat.ofNat b : Int))) = some (.bool (!decide (a = OfNat.ofNat b))) := Jdz rfl
theorem Qx : Je P kk .lss T (.int q (a : Int)) (.int q (no_index (OfNat.ofNat b : Int))) = some (.bool (decide (a < OfNat.ofNat b))) := QN rfl
theorem Qy : Je P kk .leq T (.int q (a : Int)) (.int q (no_index (OfNat.ofNat b : Int))) = some (.bool (decide (a ≤ OfNat.ofNat b))) := JbL rfl
theorem J7 : Je P kk .gtr T (.int q (a : Int)) (.int q (no_index (OfNat.ofNat b : Int))) = some (.bool (decide (OfNat.ofNat b < a))) := Jbd rfl
theorem Qz : Je P kk .geq T (.int q (a : Int)) (.int q (no_index (OfNat.ofNat b : Int))) = some (.bool (decide (OfNat.ofNat b ≤ a))) := Jb4 rfl
end
section
variable {kk : Bool} {T : TypeId} {k : IntKind} {a b : Int}
theorem JaO : Je P kk .mul T (.int k a) (.int k b) = some (.int k (k.wrap (a * b))) := by simp [Je]
theorem JhK (hb : b ≠ 0) : Je P kk .quo T (.int k a) (.int k b) = some (.int k (k.wrap (a.tdiv b))) := by
 have h : Je P kk .quo T (.int k a) (.int k b) = QJ P (fun l => binOp .quo T (l.getD 0 undef) (l.getD 1 undef)) [.int k a, .int k b] := by simp [Je]
 rw [h]
 have h2 : QI P (binOp .quo T (.int k a) (.int k b)) = some (.int k (k.wrap (a.tdiv b))) := by
  simp only [binOp, Op.intDiv, ne_eq, not_true_eq_false, if_false, if_neg hb]
  rfl
 simp only [QJ, Jc, ofV]
 show (match QI P (binOp .quo T (.int k a) (.int k b)) with
  | some v => toV 6 v
  | none => none) = _
 rw [h2]
 rfl
theorem JlJ (hb : b ≠ 0) : Je P kk .rem T (.int k a) (.int k b) = some (.int k (a.tmod b)) := by
 have h : Je P kk .rem T (.int k a) (.int k b) = QJ P (fun l => binOp .rem T (l.getD 0 undef) (l.getD 1 undef)) [.int k a, .int k b] := by simp [Je]
 rw [h]
 have h2 : QI P (binOp .rem T (.int k a) (.int k b)) = some (.int k (a.tmod b)) := by
  simp only [binOp, Op.intDiv, ne_eq, not_true_eq_false, if_false, if_neg hb]
  rfl
 simp only [QJ, Jc, ofV]
 show (match QI P (binOp .rem T (.int k a) (.int k b)) with
  | some v => toV 6 v
  | none => none) = _
 rw [h2]
 rfl
end
def adr (z : Nat) : V → Nat → V
 | .sl _ cs _, i => .cp (cs.drop (i * z))
 | .ms id off _ _ _, i => .ptr id (off + i * z)
 | _, _ => .undef
theorem Jej {k : IntKind} {a : Int} (h : 0 ≤ a) : Ja6 (.int k a) = some a.toNat := by
 obtain ⟨n, rfl⟩ := Int.eq_ofNat_of_zero_le h
 rfl
theorem Vw.ix {T e : TypeId} (hT : P.underlying T = some (.slice e)) (hz : JR P e = some 1) {x : V} {l : List S} (hv : Vw st x l) {k : IntKind} {a : Int} (h0 : 0 ≤ a) (h1 : a < (l.length : Int)) :
  Jd P T x (.int k a) = some (adr 1 x a.toNat) := by
 have h2 := Jej (k := k) h0
 have hb : Nat.blt a.toNat l.length = true := by rw [JaU]; exact decide_eq_true (by omega)
 cases hv with
 | nils => simp at h1; omega
 | sl l ex => simp only [Jd, hT, h2, hz, hb, adr]
 | ms id off cap cs e' fl fz l hbx hl hlt hid hcap => simp only [Jd, hT, h2, hz, hb, adr]
theorem Vw.ld {e : TypeId} (hz : JR P e = some 1) (ha : QO P e = some false) {x : V} {l : List S} (hv : Vw st x l) {i : Nat} (hi : i < l.length) : JB P st e (adr 1 x i) = some (.str l[i]) := by
 have hg : l.getD i ⟨0, 0⟩ = l[i] := by rw [List.getD_eq_getElem?_getD, List.getElem?_eq_getElem hi]; rfl
 cases hv with
 | nils => simp at hi
 | sl l ex =>
  simp only [adr, JB, Q5, ha, hz, Nat.mul_one]
  simp [hi]
 | ms id off cap cs e' fl fz l hbx hl hlt hid hcap =>
  simp only [adr, JB, Q5, ha, hz, Nat.mul_one, hbx, hl i hi, hg]
end Go.Vm
namespace Go.Vm
open Go
def JbX (ops : Array Oper) (o : Oper) : Option (Option Nat × Bool) :=
 match o.guard with
 | none => none
 | some (j, w) => some ((match ops[j]? with
  | some p => p.dst
  | none => none), w)
def QG (fr : Fr) : Option (Option Nat × Bool) → Bool
 | none => true
 | some (none, _) => false
 | some (some d, w) => match Fr.at fr d with
  | .bool b => b == w
  | _ => false
theorem JhL (ops : Array Oper) (fr : Fr) (o : Oper) : QG fr (JbX ops o) = Jj ops fr o := by
 unfold JbX Jj
 cases o.guard with
 | none => rfl
 | some p =>
  obtain ⟨j, w⟩ := p
  simp only
  cases ops[j]? with
  | none => rfl
  | some q => cases hq : q.dst with
   | none => simp [QG, hq]
   | some d => simp only [QG, hq]; cases Fr.at fr d <;> rfl
def Ql (P : Program) (ih : CallF) (rd : Option Nat) : List (Option (Option Nat × Bool)) → List Oper → Fr → St → OR
 | g :: gs, o :: r, fr, st =>
  match QG fr g with
  | true => match Jo o.op with
   | false => match vop P ih fr st o.op with
    | .val v st' => Ql P ih rd gs r (Fr.to fr o.dst v) st'
    | .panic v st' => .panic v fr st'
    | .fail w => .fail (o.pos ++ ": " ++ w)
   | true => match rd, Jcx P fr o.op with
    | none, some d => Ql P ih rd gs r (Fr.to { fr with ds := d :: fr.ds } o.dst .undef) st
    | _, _ => .fail (o.pos ++ ": defer")
  | false => Ql P ih rd gs r (Fr.to fr o.dst .undef) st
 | _, _, fr, st => .ok fr st
theorem JhM {P : Program} {ih : CallF} {rd : Option Nat} (ops : Array Oper) : ∀ (l : List Oper) (fr : Fr) (st : St), Ql P ih rd (l.map (JbX ops)) l fr st = J8 P ih rd ops l fr st
 | [], fr, st => rfl
 | o :: r, fr, st => by
  have ih' := JhM (P := P) (ih := ih) (rd := rd) ops r
  simp only [List.map_cons, Ql, J8, JhL]
  cases Jj ops fr o with
  | false => exact ih' _ _
  | true =>
   simp only
   cases Jo o.op with
   | false =>
    simp only
    cases vop P ih fr st o.op with
    | val v st' => exact ih' _ _
    | panic v st' => rfl
    | fail w => rfl
   | true =>
    simp only
    cases rd with
    | some q => rfl
    | none => cases Jcx P fr o.op with
     | none => rfl
     | some d => exact ih' _ _
def OkG [Memo] (P : Program) (rd : Option Nat) (gs : List (Option (Option Nat × Bool))) (l : List Oper) (fr : Fr) (st : St) (K : Fr → St → Prop) : Prop :=
 match Ql P (ihCall (W P)) rd gs l fr st with
 | .ok fr' st' => K fr' st'
 | _ => False
theorem JkG {P : Program} {ih : CallF} {rd : Option Nat} (n : Nat) : ∀ (gs : List (Option (Option Nat × Bool))) (l : List Oper) (fr : Fr) (st : St), gs.length = l.length → Ql P ih rd gs l fr st =
    match Ql P ih rd (gs.take n) (l.take n) fr st with
    | .ok fr1 st1 => Ql P ih rd (gs.drop n) (l.drop n) fr1 st1
    | r => r := by
  induction n with
  | zero => intro gs l fr st _; simp [Ql]
  | succ n ihn =>
    intro gs l fr st h
    cases gs with
    | nil => cases l with
      | nil => simp [Ql]
      | cons o r => simp at h
    | cons g gs => cases l with
     | nil => simp at h
     | cons o r =>
      have ih' := fun fr st => ihn gs r fr st (by simpa using h)
      simp only [List.take_succ_cons, List.drop_succ_cons, Ql]
      cases QG fr g with
      | false => exact ih' _ _
      | true =>
        simp only
        cases Jo o.op with
        | false =>
          simp only
          cases vop P ih fr st o.op with
          | val v st' => exact ih' _ _
          | panic v st' => rfl
          | fail w => rfl
        | true =>
          simp only
          cases rd with
          | some q => rfl
          | none => cases Jcx P fr o.op with
            | none => rfl
            | some d => exact ih' _ _
theorem OkG.cut [Memo] {P : Program} {rd : Option Nat} {gs : List (Option (Option Nat × Bool))} {l : List Oper} {fr : Fr} {st : St} {Q : Fr → St → Prop} (n : Nat) (R : Fr → St → Prop) (hlen : Nat.beq gs.length l.length = true) (h : OkG P rd (gs.take n) (l.take n) fr st R)
  (k : ∀ fr' st', R fr' st' → OkG P rd (gs.drop n) (l.drop n) fr' st' Q) : OkG P rd gs l fr st Q := by
 unfold OkG at h ⊢
 rw [JkG n gs l fr st (Nat.eq_of_beq_eq_true hlen)]
 cases hx : Ql P (ihCall (W P)) rd (gs.take n) (l.take n) fr st with
 | ok fr1 st1 => rw [hx] at h; exact k fr1 st1 h
 | panic v fr1 st1 => rw [hx] at h; exact h.elim
 | fail w => rw [hx] at h; exact h.elim
theorem OkG.cutK [Memo] {P : Program} {rd : Option Nat} {gs : List (Option (Option Nat × Bool))} {l : List Oper} {fr : Fr} {st : St} {Q : Fr → St → Prop} (n : Nat) (M : Fr → St → Prop) (hlen : Nat.beq gs.length l.length = true)
  (h : ∀ K : Fr → St → Prop, (∀ fr' st', M fr' st' → K fr' st') → OkG P rd (gs.take n) (l.take n) fr st K)
  (k : ∀ fr' st', M fr' st' → OkG P rd (gs.drop n) (l.drop n) fr' st' Q) : OkG P rd gs l fr st Q := OkG.cut n M hlen (h M fun _ _ h => h) k
end Go.Vm
namespace Go.Vm
open Go
section
variable [Memo] {P : Program} {rd : Option Nat} {fr : Fr} {st : St} {Q : AE → Fr → St → Prop}
def DoK [Memo] (P : Program) (rd : Option Nat) : List Code → Fr → St → (AE → Fr → St → Prop) → Prop
 | [], fr, st, Q => Q .normal fr st
 | c :: k, fr, st, Q => DoR P rd c fr st (andThen (fun fr st => DoK P rd k fr st Q) Q)
theorem Ks_ {a b : Code} {k : List Code} (h : DoK P rd (a :: b :: k) fr st Q) : DoK P rd (.seq a b :: k) fr st Q := by
 refine DoR.seq (DoR.mono h fun e fr' st' h => ?_)
 cases e with
 | normal => exact h
 | exit id => exact h
 | ret => exact h
 | panic v => exact h
theorem Kk_ {k : List Code} (h : DoK P rd k fr st Q) : DoK P rd (.skip :: k) fr st Q := DoR.skip h
theorem Kq_ {k : List Code} (h : Q .ret fr st) : DoK P rd (.ret :: k) fr st Q := DoR.ret h
theorem Kx_ {id : Nat} {k : List Code} (h : Q (.exit id) fr st) : DoK P rd (.exit id :: k) fr st Q := DoR.exit h
theorem Kt_ {x : Operand} {a b : Code} {k : List Code} (hx : ev fr x = some (.bool true)) (h : DoK P rd (a :: k) fr st Q) : DoK P rd (.cond x a b :: k) fr st Q := DoR.condT hx h
theorem Kf_ {x : Operand} {a b : Code} {k : List Code} (hx : ev fr x = some (.bool false)) (h : DoK P rd (b :: k) fr st Q) : DoK P rd (.cond x a b :: k) fr st Q := DoR.condF hx h
theorem DoK.reg {id : Nat} {ops : Array Oper} {k : List Code} (h : ∀ K : Fr → St → Prop, (∀ fr' st', DoK P rd k fr' st' Q → K fr' st') → OkR P rd ops ops.toList fr st K) : DoK P rd (.region id ops false :: k) fr st Q :=
 DoR.region (h _ fun _ _ h => h)
theorem Kr_ {id : Nat} {ops : Array Oper} {k : List Code} {gs : List (Option (Option Nat × Bool))} (hg : ops.toList.map (JbX ops) = gs) (h : ∀ K : Fr → St → Prop, (∀ fr' st', DoK P rd k fr' st' Q → K fr' st') → OkG P rd gs ops.toList fr st K) : DoK P rd (.region id ops false :: k) fr st Q := by
 refine DoK.reg fun K hK => ?_
 have := h K hK
 unfold OkG at this
 rw [← hg, JhM] at this
 exact this
theorem Ka_ {id : Nat} {ops : Array Oper} {k : List Code} {gs : List (Option (Option Nat × Bool))} (h : ∀ K : Fr → St → Prop, (∀ fr' st', DoK P rd k fr' st' Q → K fr' st') → OkG P rd gs ops.toList fr st K) (hg : ops.toList.map (JbX ops) = gs := by kernel_rfl) : DoK P rd (.region id ops false :: k) fr st Q := Kr_ hg h
theorem DoK.draw {id : Nat} {ops : Array Oper} {k : List Code} {b l : List Nat} (hb : Qr ops = b) (hl : JcK P ops b = l) (hp : Ja7 P ops b l = true)
  (h : ∀ K : Fr → St → Prop, (∀ fr' st', DoK P rd k fr' st' Q → K fr' st') →
   match J9 P (ihCall (W P)) ops b st.ctr l { fr := fr, st := { st with ctr := st.ctr + ops.size }, snaps := [(ops.size, { st with ctr := st.ctr + ops.size })] } with
   | some d => K d.fr d.st
   | none => False) : DoK P rd (.region id ops true :: k) fr st Q :=
 DoR.draw hb hl hp (h _ fun _ _ h => h)
def JT (P : Program) (ih : CallF) (ops : Array Oper) (b : List Nat) (c0 : Nat) : List Oper → Nat → Drw → Option Drw
 | [], _, d => some d
 | o :: r, i, d => match Jj ops d.fr o with
  | false => JT P ih ops b c0 r (i + 1) { fr := Fr.to d.fr o.dst .undef, st := d.st, snaps := (match Js P o.op with | .e => (i, d.st) :: d.snaps | _ => d.snaps) }
  | true =>
   match Js P o.op with
   | .p => match Jy P d.fr d.st o.op with
    | some v => JT P ih ops b c0 r (i + 1) { d with fr := Fr.to d.fr o.dst v }
    | none => none
   | .r => match d.snaps with
    | (_, s0) :: _ => match Jy P d.fr s0 o.op with
     | some v => match JO P d.fr o.op v (b.getD i 0) d.snaps with
      | true => JT P ih ops b c0 r (i + 1) { d with fr := Fr.to d.fr o.dst v }
      | false => none
     | none => none
    | [] => none
   | .a => match Jv P d.fr o.op with
    | some (cs, e, n) => match cs.all Ju with
     | true => JT P ih ops b c0 r (i + 1) { fr := Fr.to d.fr o.dst (JM (c0 + i) n), st := { d.st with box := d.st.box.put (c0 + i) (.cells cs e true (some 0)) }, snaps := d.snaps }
     | false => none
    | none => none
   | .e => match J6 P ih d.fr d.st o.op with
    | .val v st' => JT P ih ops b c0 r (i + 1) { fr := Fr.to d.fr o.dst v, st := st', snaps := (i, st') :: d.snaps }
    | _ => none
omit [Memo] in
theorem Jgq {P : Program} {ih : CallF} {ops : Array Oper} {b : List Nat} {c0 : Nat} : ∀ (l : List Oper) (i : Nat) (d : Drw), ops.toList.drop i = l → J9 P ih ops b c0 (List.range' i l.length) d = JT P ih ops b c0 l i d
 | [], i, d, _ => rfl
 | o :: r, i, d, h => by
  have ho : ops[i]? = some o := by
   have := congrArg (fun l => l[0]?) h
   simpa [List.getElem?_drop] using this
  have hr : ops.toList.drop (i + 1) = r := by
   have := congrArg (fun l => l.drop 1) h
   simpa [List.drop_drop] using this
  have ih' : ∀ d, J9 P ih ops b c0 (List.range' (i + 1) r.length) d = JT P ih ops b c0 r (i + 1) d := fun d => Jgq r (i + 1) d hr
  simp only [List.length_cons, List.range'_succ, J9, Qk, ho, JT]
  cases Jj ops d.fr o with
  | false => simp only [ih']; cases Js P o.op <;> rfl
  | true =>
   simp only
   cases Js P o.op with
   | p =>
    simp only
    cases Jy P d.fr d.st o.op with
    | none => rfl
    | some v => simp only [ih']
   | r =>
    simp only
    cases hs : d.snaps with
    | nil => rfl
    | cons s sn =>
     simp only
     cases Jy P d.fr s.2 o.op with
     | none => rfl
     | some v =>
      simp only
      cases JO P d.fr o.op v (b.getD i 0) (s :: sn) with
      | true => simp only [ih']
      | false => rfl
   | a =>
    simp only
    cases Jv P d.fr o.op with
    | none => rfl
    | some v =>
     simp only
     cases v.1.all Ju with
     | true => simp only [ih']
     | false => rfl
   | e =>
    simp only
    cases J6 P ih d.fr d.st o.op with
    | val v st' => simp only [ih']
    | panic v st' => rfl
    | fail w => rfl
def OkD [Memo] (P : Program) (ops : Array Oper) (b : List Nat) (c0 : Nat) (l : List Oper) (i : Nat) (fr : Fr) (st : St) (snaps : List (Nat × St)) (K : Fr → St → Prop) : Prop :=
 match JT P (ihCall (W P)) ops b c0 l i { fr := fr, st := st, snaps := snaps } with
 | some d => K d.fr d.st
 | none => False
theorem Kg_ {id : Nat} {ops : Array Oper} {k : List Code} {b : List Nat} (hb : Qr ops = b) (hl : JcK P ops b = List.range' 0 ops.toList.length) (hp : Ja7 P ops b (List.range' 0 ops.toList.length) = true)
  (h : ∀ K : Fr → St → Prop, (∀ fr' st', DoK P rd k fr' st' Q → K fr' st') →
   OkD P ops b st.ctr ops.toList 0 fr { ctr := st.ctr + ops.size, box := st.box } [(ops.size, { ctr := st.ctr + ops.size, box := st.box })] K) : DoK P rd (.region id ops true :: k) fr st Q := by
 refine DoK.draw hb hl hp fun K hK => ?_
 rw [Jgq ops.toList 0 _ rfl]
 exact h K hK
theorem Ki_ {id : Nat} {ops : Array Oper} {k : List Code} {b : List Nat} (h : ∀ K : Fr → St → Prop, (∀ fr' st', DoK P rd k fr' st' Q → K fr' st') →
   OkD P ops b st.ctr ops.toList 0 fr { ctr := st.ctr + ops.size, box := st.box } [(ops.size, { ctr := st.ctr + ops.size, box := st.box })] K) (hb : Qr ops = b := by kernel_rfl) (hl : JcK P ops b = List.range' 0 ops.toList.length := by kernel_rfl) (hp : Ja7 P ops b (List.range' 0 ops.toList.length) = true := by kernel_rfl) : DoK P rd (.region id ops true :: k) fr st Q := Kg_ hb hl hp h
omit [Memo] in
theorem Jgr {P : Program} {ih : CallF} {ops : Array Oper} {b : List Nat} {c0 : Nat} : ∀ (l m : List Nat) (d : Drw), J9 P ih ops b c0 (l ++ m) d = match J9 P ih ops b c0 l d with
  | some d' => J9 P ih ops b c0 m d'
  | none => none
 | [], m, d => rfl
 | i :: l, m, d => by
  simp only [List.cons_append, J9]
  cases Qk P ih ops b c0 i d with
  | none => rfl
  | some d' => exact Jgr l m d'
omit [Memo] in
theorem JhN {P : Program} {ih : CallF} {ops : Array Oper} {b : List Nat} {c0 : Nat} (a n : Nat) (h : a + n ≤ ops.toList.length) (d : Drw) : J9 P ih ops b c0 (List.range' a n) d = JT P ih ops b c0 ((ops.toList.drop a).take n) a d := by
 have key : ∀ (n i : Nat) (l : List Oper) (d : Drw), (∀ j (hj : j < l.length), ops[i + j]? = some l[j]) → l.length = n → J9 P ih ops b c0 (List.range' i n) d = JT P ih ops b c0 l i d := by
  intro n
  induction n with
  | zero =>
   intro i l d _ hl
   obtain rfl := List.length_eq_zero_iff.1 hl
   rfl
  | succ n ihn =>
   intro i l d hg hl
   match l, hl with
   | o :: r, hl =>
    have ho : ops[i]? = some o := hg 0 (by simp)
    have ih' : ∀ d, J9 P ih ops b c0 (List.range' (i + 1) n) d = JT P ih ops b c0 r (i + 1) d := fun d => ihn (i + 1) r d (fun j hj => by
     have := hg (j + 1) (by simpa using hj)
     rw [show i + 1 + j = i + (j + 1) from by omega, this]
     rfl) (by simpa using hl)
    simp only [List.range'_succ, J9, Qk, ho, JT]
    cases Jj ops d.fr o with
    | false => simp only [ih']; cases Js P o.op <;> rfl
    | true =>
     simp only
     cases Js P o.op with
     | p =>
      simp only
      cases Jy P d.fr d.st o.op with
      | none => rfl
      | some v => simp only [ih']
     | r =>
      simp only
      cases hs : d.snaps with
      | nil => rfl
      | cons s sn =>
       simp only
       cases Jy P d.fr s.2 o.op with
       | none => rfl
       | some v =>
        simp only
        cases JO P d.fr o.op v (b.getD i 0) (s :: sn) with
        | true => simp only [ih']
        | false => rfl
     | a =>
      simp only
      cases Jv P d.fr o.op with
      | none => rfl
      | some v =>
       simp only
       cases v.1.all Ju with
       | true => simp only [ih']
       | false => rfl
     | e =>
      simp only
      cases J6 P ih d.fr d.st o.op with
      | val v st' => simp only [ih']
      | panic v st' => rfl
      | fail w => rfl
 refine key n a _ d (fun j hj => ?_) (by simp at h ⊢; omega)
 simp at hj
 simp
def Jek (rs : List (Nat × Nat)) : List Nat := rs.flatMap fun r => List.range' r.1 r.2
def Qf [Memo] (P : Program) (ops : Array Oper) (b : List Nat) (c0 : Nat) : List (Nat × Nat) → Drw → (Fr → St → Prop) → Prop
 | [], d, K => K d.fr d.st
 | r :: rs, d, K => match JT P (ihCall (W P)) ops b c0 ((ops.toList.drop r.1).take r.2) r.1 d with
  | some d' => Qf P ops b c0 rs d' K
  | none => False
theorem Jgs {P : Program} {ops : Array Oper} {b : List Nat} {c0 : Nat} {K : Fr → St → Prop} : ∀ (rs : List (Nat × Nat)) (d : Drw), (rs.all fun r => Nat.ble (r.1 + r.2) ops.toList.length) = true → Qf P ops b c0 rs d K →
  match J9 P (ihCall (W P)) ops b c0 (Jek rs) d with
  | some d => K d.fr d.st
  | none => False
 | [], d, _, h => h
 | r :: rs, d, hr, h => by
  simp only [List.all_cons, Bool.and_eq_true] at hr
  simp only [Qf] at h
  show match J9 P (ihCall (W P)) ops b c0 (List.range' r.1 r.2 ++ Jek rs) d with
   | some d => K d.fr d.st
   | none => False
  rw [Jgr, JhN _ _ (Nat.le_of_ble_eq_true hr.1)]
  cases hx : JT P (ihCall (W P)) ops b c0 ((ops.toList.drop r.1).take r.2) r.1 d with
  | none => rw [hx] at h; exact h.elim
  | some d' => rw [hx] at h; exact Jgs rs d' hr.2 h
theorem Ke_ {id : Nat} {ops : Array Oper} {k : List Code} {b : List Nat} {rs : List (Nat × Nat)} (hb : Qr ops = b) (hl : JcK P ops b = Jek rs) (hp : Ja7 P ops b (Jek rs) = true) (hr : (rs.all fun r => Nat.ble (r.1 + r.2) ops.toList.length) = true)
  (h : ∀ K : Fr → St → Prop, (∀ fr' st', DoK P rd k fr' st' Q → K fr' st') →
   Qf P ops b st.ctr rs { fr := fr, st := { ctr := st.ctr + ops.size, box := st.box }, snaps := [(ops.size, { ctr := st.ctr + ops.size, box := st.box })] } K) : DoK P rd (.region id ops true :: k) fr st Q := by
 refine DoK.draw hb hl hp fun K hK => ?_
 exact Jgs rs _ hr (h K hK)
theorem Kj_ {id : Nat} {ops : Array Oper} {k : List Code} {b : List Nat} {rs : List (Nat × Nat)} (h : ∀ K : Fr → St → Prop, (∀ fr' st', DoK P rd k fr' st' Q → K fr' st') →
   Qf P ops b st.ctr rs { fr := fr, st := { ctr := st.ctr + ops.size, box := st.box }, snaps := [(ops.size, { ctr := st.ctr + ops.size, box := st.box })] } K) (hb : Qr ops = b := by kernel_rfl) (hl : JcK P ops b = Jek rs := by kernel_rfl) (hp : Ja7 P ops b (Jek rs) = true := by kernel_rfl) (hr : (rs.all fun r => Nat.ble (r.1 + r.2) ops.toList.length) = true := by kernel_rfl) : DoK P rd (.region id ops true :: k) fr st Q := Ke_ hb hl hp hr h
theorem Kn_ {c : List Code} (M : Fr → Prop) (h : M fr) (k : ∀ fr, M fr → DoK P rd c fr st Q) : DoK P rd c fr st Q := k fr h
def Jn2 (id : Nat) : AE → Prop
 | .normal => False
 | .exit j => j ≠ id
 | _ => True
theorem Kb_ {id : Nat} {b : Code} {k : List Code}
  (h : ∀ K : AE → Fr → St → Prop, (∀ fr' st', DoK P rd k fr' st' Q → K .normal fr' st') → (∀ fr' st', DoK P rd k fr' st' Q → K (.exit id) fr' st') → (∀ e fr' st', Jn2 id e → Q e fr' st' → K e fr' st') → DoK P rd [b] fr st K) :
  DoK P rd (.block id b :: k) fr st Q := by
 refine DoR.block (DoR.mono (h (fun e fr st => inBlock id (andThen (fun fr st => DoK P rd k fr st Q) Q) e fr st) ?_ ?_ ?_) fun e fr' st' h => ?_)
 ·intro fr' st' h; exact h
 ·intro fr' st' h; simp only [inBlock, if_true]; exact h
 ·intro e fr' st' ha h
  cases e with
  | normal => exact ha.elim
  | exit j => simp only [inBlock]; rw [if_neg ha]; exact h
  | ret => exact h
  | panic v => exact h
 ·cases e with
  | normal => exact h
  | exit id => exact h
  | ret => exact h
  | panic v => exact h
theorem Kl_ {id : Nat} {b : Code} {k : List Code} (N : Nat) (I : Nat → Fr → St → Prop) (i0 : Nat) (M : Fr → St → Prop) (h0 : I i0 fr st) (hb : ∀ i fr st, I i fr st → i ≤ N)
  (step : ∀ i fr st, I i fr st → ∀ K : AE → Fr → St → Prop, (∀ j fr' st', i < j → I j fr' st' → K .normal fr' st') → (∀ fr' st', M fr' st' → K (.exit id) fr' st') → (∀ e fr' st', Jn2 id e → Q e fr' st' → K e fr' st') → DoK P rd [b] fr st K)
  (tail : ∀ fr' st', M fr' st' → DoK P rd k fr' st' Q) : DoK P rd (.block id (.loop b) :: k) fr st Q := by
 refine DoR.block (DoR.up N I i0 h0 hb fun i fr1 st1 hi => ?_)
 refine DoR.mono (step i fr1 st1 hi (fun e fr st => andThen (fun fr' st' => ∃ j, i < j ∧ I j fr' st') (inBlock id (andThen (fun fr st => DoK P rd k fr st Q) Q)) e fr st) ?_ ?_ ?_) fun e fr' st' h => ?_
 ·intro j fr' st' hj h; exact ⟨j, hj, h⟩
 ·intro fr' st' h; simp only [andThen, inBlock, if_true]; exact tail _ _ h
 ·intro e fr' st' ha h
  cases e with
  | normal => exact ha.elim
  | exit j => simp only [andThen, inBlock]; rw [if_neg ha]; exact h
  | ret => exact h
  | panic v => exact h
 ·cases e with
  | normal => exact h
  | exit id => exact h
  | ret => exact h
  | panic v => exact h
def Joe : AE → Prop
 | .normal => False
 | _ => True
theorem Km_ {a : Code} {k : List Code} (M : Fr → St → Prop)
  (h : ∀ K : AE → Fr → St → Prop, (∀ fr' st', M fr' st' → K .normal fr' st') → (∀ e fr' st', Joe e → Q e fr' st' → K e fr' st') → DoK P rd [a] fr st K)
  (tail : ∀ fr' st', M fr' st' → DoK P rd k fr' st' Q) : DoK P rd (a :: k) fr st Q := by
 refine DoR.mono (h (fun e fr st => andThen (fun fr st => DoK P rd k fr st Q) Q e fr st) (fun _ _ h => tail _ _ h) ?_) fun e fr' st' h => ?_
 ·intro e fr' st' ha h
  cases e with
  | normal => exact ha.elim
  | exit j => exact h
  | ret => exact h
  | panic v => exact h
 ·cases e with
  | normal => exact h
  | exit id => exact h
  | ret => exact h
  | panic v => exact h
theorem Qb {gl : Gl} {f : Nat} {args : List V} {fn : Func} {c : Code} {R : V → St → Prop} (hn : (Memo.look f).run args st = none) (hf : P.funcs[f]? = some fn) (hb : fn.body = some c)
  (hs : (Nat.ble args.length fn.ntmps && JV fn.ntmps c) = true)
  (h : ∀ R' : V → St → Prop, (∀ v st', R v st' → R' v st') → ∀ K : AE → Fr → St → Prop, (∀ fr st, JW P fn R' .ret fr st → K .ret fr st) → (∀ fr st, JW P fn R' .normal fr st → K .normal fr st) → DoK P none [c] (JC gl args) st K) : Says P gl f args st R := by
 refine Jod hn hf hb hs (DoR.mono (h R (fun _ _ h => h) (JW P fn R) (fun _ _ h => h) (fun _ _ h => h)) fun e fr' st' h => ?_)
 cases e with
 | normal => exact h
 | exit id => exact h
 | ret => exact h
 | panic v => exact h
end
theorem JG {P : Program} {st : St} {c : Nat} {T : TypeId} {a : V} : JB P { ctr := st.ctr + c, box := st.box } T a = JB P st T a := by cases a <;> rfl
theorem Q9 {st : St} {x : Bx} {i : Nat} : (st.new x).box.get i = if i = st.ctr then some x else st.box.get i := Tr.get_put ..
theorem QD {st : St} {x : Bx} {j i : Nat} : (st.put j x).box.get i = if i = j then some x else st.box.get i := Tr.get_put ..
theorem JjS {st : St} {x : Bx} : (st.new x).ctr = st.ctr + 1 := rfl
theorem JgX {st : St} {x : Bx} {j : Nat} : (st.put j x).ctr = st.ctr := rfl
theorem Keep.new' {a b : St} (h : Keep a b) (x : Bx) : Keep a (b.new x) := h.new x
theorem Keep.put' {a b : St} (h : Keep a b) {id : Nat} (hid : a.ctr ≤ id) (x : Bx) : Keep a (b.put id x) := h.put hid x
end Go.Vm
namespace Go.Vm
open Go
inductive Mine (lo : Nat) (e : TypeId) (st : St) : V → List V → Prop
 | nils : Mine lo e st .nils []
 | ms (id n : Nat) (cap : Option Nat) (cs : List V) (fl : Bool) (hlo : lo ≤ id) (hid : id < st.ctr) (hb : st.box.get id = some (.cells cs e fl (some 0))) (hn : n ≤ cs.length) (hcap : ∀ c, cap = some c → n ≤ c ∧ c ≤ cs.length) :
   Mine lo e st (.ms id 0 n 1 cap) (cs.take n)
def JcM (st : St) (x : V) (l : List V) : Prop := Qj st 1 x = some (l, l.length) ∧ l.all Ju = true
theorem JgY (l : List S) : (l.map V.str).all Ju = true := by simp [Ju]
theorem Mine.src {lo : Nat} {e : TypeId} {st : St} {x : V} {l : List V} (h : Mine lo e st x l) (ho : l.all Ju = true) : JcM st x l := by
 refine ⟨?_, ho⟩
 cases h with
 | nils => rfl
 | ms id n cap cs fl hlo hid hb hn hcap =>
  have h1 : Nat.ble (0 + n) cs.length = true := Nat.ble_eq_true_of_le (by omega)
  simp only [Qj, JJ, hb, Nat.mul_one, h1, sub, List.drop_zero, List.length_take, Nat.min_eq_left hn]
theorem Mine.vw {lo : Nat} {e : TypeId} {st : St} {x : V} {l : List S} (h : Mine lo e st x (l.map .str)) : Vw st x l := by
 generalize hm : l.map V.str = m at h
 cases h with
 | nils =>
  have : l = [] := by simpa using hm
  subst this
  exact .nils
 | ms id n cap cs fl hlo hid hb hn hcap =>
  have hl : l.length = n := by have := congrArg List.length hm; simpa [Nat.min_eq_left hn] using this
  subst hl
  refine .ms id 0 cap cs e fl (some 0) l hb (fun i hi => ?_) (by omega) hid ?_
  ·have := congrArg (fun m => m[i]?) hm
   simp only [List.getElem?_map, List.getElem?_take, if_pos hi, List.getElem?_eq_getElem hi, Option.map_some] at this
   rw [Nat.zero_add, ← this, List.getD_eq_getElem?_getD, List.getElem?_eq_getElem hi]; rfl
  ·cases cap with
   | none => exact Jaq _
   | some c => exact Nat.ble_eq_true_of_le (hcap c rfl).1
theorem Mine.keep {lo : Nat} {e : TypeId} {st st' : St} {x : V} {l : List V} (h : Mine lo e st x l) (hk : Keep st st') : Mine lo e st' x l := by
 cases h with
 | nils => exact .nils
 | ms id n cap cs fl hlo hid hb hn hcap => exact .ms id n cap cs fl hlo (Nat.lt_of_lt_of_le hid hk.ctr) (by rw [hk.box id hid]; exact hb) hn hcap
theorem Mine.low {lo lo' : Nat} {e : TypeId} {st : St} {x : V} {l : List V} (h : Mine lo e st x l) (hl : lo' ≤ lo) : Mine lo' e st x l := by
 cases h with
 | nils => exact .nils
 | ms id n cap cs fl hlo hid hb hn hcap => exact .ms id n cap cs fl (Nat.le_trans hl hlo) hid hb hn hcap
structure Low (lo : Nat) (st st' : St) : Prop where
 ctr : st.ctr ≤ st'.ctr
 box : ∀ id, id < lo → st'.box.get id = st.box.get id
theorem Low.keep {lo : Nat} {a b c : St} (h : Low lo b c) (k : Keep a b) (hl : a.ctr ≤ lo) : Keep a c := ⟨Nat.le_trans k.ctr h.ctr, fun id hi => (h.box id (by omega)).trans (k.box id hi)⟩
theorem Low.refl (lo : Nat) (st : St) : Low lo st st := ⟨Nat.le_refl _, fun _ _ => rfl⟩
theorem Low.trans {lo : Nat} {a b c : St} (h : Low lo a b) (k : Low lo b c) : Low lo a c := ⟨Nat.le_trans h.ctr k.ctr, fun id hi => (k.box id hi).trans (h.box id hi)⟩
theorem Low.of {lo : Nat} {a b : St} (h : Keep a b) (hl : lo ≤ a.ctr) : Low lo a b := ⟨h.ctr, fun id hi => h.box id (by omega)⟩
theorem Jgt (cs news : List V) (n : Nat) (h : n ≤ cs.length) : (over cs n news).take (n + news.length) = cs.take n ++ news := by
 unfold over
 rw [List.append_assoc, List.take_append, List.take_of_length_le (by simp; omega), List.length_take, Nat.min_eq_left h]
 congr 1
 rw [Nat.add_sub_cancel_left, List.take_append_of_le_length (by simp), List.take_of_length_le (by simp)]
theorem Jfo (cs news : List V) (n : Nat) (h : n + news.length ≤ cs.length) : (over cs n news).length = cs.length := by
 unfold over; simp; omega
variable {P : Program} {T e : TypeId}
def vid : V → Nat → Prop
 | .ms id _ _ _ _, i => i = id
 | _, _ => False
theorem Mine.stab {lo : Nat} {e : TypeId} {st st' : St} {x : V} {l : List V} (h : Mine lo e st x l) (hc : st.ctr ≤ st'.ctr) (hb : ∀ i, vid x i → st'.box.get i = st.box.get i) : Mine lo e st' x l := by
 cases h with
 | nils => exact .nils
 | ms id n cap cs fl hlo hid hb' hn hcap => exact .ms id n cap cs fl hlo (Nat.lt_of_lt_of_le hid hc) (by rw [hb id rfl]; exact hb') hn hcap
theorem Mine.vid_lt {lo : Nat} {e : TypeId} {st : St} {x : V} {l : List V} (h : Mine lo e st x l) {i : Nat} (hi : vid x i) : lo ≤ i ∧ i < st.ctr := by
 cases h with
 | nils => exact hi.elim
 | ms id n cap cs fl hlo hid hb' hn hcap => obtain rfl := (show i = id from hi); exact ⟨hlo, hid⟩
theorem Mine.sim {lo : Nat} {e : TypeId} {st : St} {x : V} {l : List V} (h : Mine lo e st x l) : JiS x = true := by cases h <;> rfl
theorem Mine.push2 {i : TypeInfo} {z : V} (hT : P.underlying T = some (.slice e)) (hi : P.info? e = some i) (hs : i.size = 1) (hzv : Q7 P e = some z) (hzc : z.cells.length = 1) {st : St} {x s : V} {l m : List V} {lo : Nat} (h : Mine lo e st x l)
  (hm : JcM st s m) (hlo : lo ≤ st.ctr) (hb1 : (l.length + m.length) * i.bytes ≤ Jr) (hb2 : l.length + m.length ≤ Jr) :
  ∃ y st', J0 P st T x s = some (y, st') ∧ Low lo st st' ∧ Mine lo e st' y (l ++ m) ∧ (∀ i, vid y i → vid x i ∨ st.ctr ≤ i) ∧ ∀ i, i < st.ctr → ¬ vid x i → st'.box.get i = st.box.get i := by
 obtain ⟨hsrc, hone⟩ := hm
 have h0 : Nat.beq 1 0 = false := rfl
 by_cases hme : m.length = 0
 ·obtain rfl := List.length_eq_zero_iff.1 hme
  refine ⟨x, st, ?_, .refl _ _, by rw [List.append_nil]; exact h, fun i hi => .inl hi, fun _ _ _ => rfl⟩
  cases h with
  | nils => simp only [J0, hT, hi, hs, hzv, hsrc, JJ]; rfl
  | ms id n cap cs fl hlo hid hb hn hcap =>
   have h1 : Nat.ble (0 + n * 1) cs.length = true := Nat.ble_eq_true_of_le (by omega)
   simp only [J0, hT, hi, hs, hzv, hsrc, JJ, hb, h1]; rfl
 ·have hmb : Nat.beq m.length 0 = false := by rw [Je9]; exact decide_eq_false hme
  have q1 : Nat.ble ((l.length + m.length) * i.bytes) Jr = true := Nat.ble_eq_true_of_le hb1
  have q2 : Nat.ble (l.length + m.length) Jr = true := Nat.ble_eq_true_of_le hb2
  have q3 : Nat.beq z.cells.length 1 = true := by rw [hzc]; rfl
  have knew : ∀ (cs : List V) (b : Tr Bx), (∀ id, id < lo → b.get id = st.box.get id) → Low lo st { ctr := st.ctr + 1, box := b.put st.ctr (.cells cs e false (some 0)) } := fun cs b hbx => ⟨Nat.le_succ _, fun id hid => by
   show (b.put st.ctr _).get id = _
   rw [Tr.get_put, if_neg (by omega)]; exact hbx id hid⟩
  have mnew : ∀ (b : Tr Bx), Mine lo e { ctr := st.ctr + 1, box := b.put st.ctr (.cells (l ++ m) e false (some 0)) } (.ms st.ctr 0 (l.length + m.length) 1 none) (l ++ m) := fun b => by
   have := Mine.ms (lo := lo) (e := e) (st := { ctr := st.ctr + 1, box := b.put st.ctr (.cells (l ++ m) e false (some 0)) }) st.ctr (l.length + m.length) none (l ++ m) false hlo (Nat.lt_succ_self _) (by show (b.put st.ctr _).get _ = _; rw [Tr.get_put, if_pos rfl]) (by simp) (fun c hc => by cases hc)
   rwa [List.take_of_length_le (by simp)] at this
  cases h with
  | nils =>
   refine ⟨.ms st.ctr 0 ([].length + m.length) 1 none, { ctr := st.ctr + 1, box := st.box.put st.ctr (.cells ([] ++ m) e false (some 0)) }, ?_, knew _ _ fun _ _ => rfl, mnew _, fun i hi => .inr (Nat.le_of_eq (show i = st.ctr from hi).symm), fun i hi _ => by show (st.box.put st.ctr _).get i = _; rw [Tr.get_put, if_neg (by omega)]⟩
   simp only [J0, hT, hi, hs, h0, hzv, hsrc, JJ, hmb, q3, hone]
   rw [show Nat.ble ((0 + m.length) * i.bytes) Jr = true from q1, show Nat.ble (0 + m.length) Jr = true from q2]
   simp
  | ms id n cap cs fl hlo' hid hb hn hcap =>
   have h1 : Nat.ble (0 + n * 1) cs.length = true := Nat.ble_eq_true_of_le (by omega)
   have hlen : (cs.take n).length = n := by simp [Nat.min_eq_left hn]
   have hsub : sub cs 0 (n * 1) = cs.take n := by simp [sub]
   have e1 : Nat.beq 1 1 = true := rfl
   rw [hlen] at q1 q2 mnew
   have hgen : ∀ y st', (match QV cs.length 0 n m.length 1 cap with
     | .here => (match Nat.ble (0 + (n + m.length) * 1) cs.length && Jb8 (some 0) (0 + n * 1) with
      | true => some (V.ms id 0 (n + m.length) 1 cap, { st with box := st.box.put id (.cells (over cs (0 + n * 1) m) e fl (some 0)) })
      | false => none)
     | .fresh => some (V.ms st.ctr 0 (n + m.length) 1 none, { ctr := st.ctr + 1, box := st.box.put st.ctr (.cells (cs.take n ++ m) e false (some 0)) })
     | .gone => (match Jb8 (some 0) (0 + n * 1) && Nat.beq e e with
      | true => some (V.ms st.ctr 0 (n + m.length) 1 none, { ctr := st.ctr + 1, box := (st.box.del id).put st.ctr (.cells (cs.take n ++ m) e false (Jgy (some 0) 0)) })
      | false => none)) = some (y, st') → J0 P st T (.ms id 0 n 1 cap) s = some (y, st') := fun y st' hh => by
    simp only [J0, hT, hi, hs, h0, hzv, hsrc, JJ, hb, h1, hmb, q1, q2, q3, hone, hsub, Bool.and_self, e1]
    exact hh
   have hfz : Jb8 (some 0) (0 + n * 1) = true := Nat.ble_eq_true_of_le (Nat.zero_le _)
   have hee : Nat.beq e e = true := Nat.beq_refl e
   have here : n + m.length ≤ cs.length → (∀ c, cap = some c → n + m.length ≤ c) → (match Nat.ble (0 + (n + m.length) * 1) cs.length && Jb8 (some 0) (0 + n * 1) with
      | true => some (V.ms id 0 (n + m.length) 1 cap, ({ st with box := st.box.put id (.cells (over cs (0 + n * 1) m) e fl (some 0)) } : St))
      | false => none) = some (V.ms id 0 (n + m.length) 1 cap, { st with box := st.box.put id (.cells (over cs n m) e fl (some 0)) }) ∧
     Low lo st { st with box := st.box.put id (.cells (over cs n m) e fl (some 0)) } ∧ Mine lo e { st with box := st.box.put id (.cells (over cs n m) e fl (some 0)) } (.ms id 0 (n + m.length) 1 cap) (cs.take n ++ m) := fun hle hc => by
    have h2 : Nat.ble (0 + (n + m.length) * 1) cs.length = true := Nat.ble_eq_true_of_le (by omega)
    refine ⟨by rw [h2, hfz, show 0 + n * 1 = n from by omega]; rfl, ⟨Nat.le_refl _, fun i hi => by show (st.box.put id _).get i = _; rw [Tr.get_put, if_neg (by omega)]⟩, ?_⟩
    have := Mine.ms (lo := lo) (e := e) (st := { st with box := st.box.put id (.cells (over cs n m) e fl (some 0)) }) id (n + m.length) cap (over cs n m) fl hlo' hid (by show (st.box.put id _).get _ = _; rw [Tr.get_put, if_pos rfl]) (by rw [Jfo _ _ _ hle]; exact hle) (fun c hc' => by rw [Jfo _ _ _ hle]; exact ⟨hc c hc', (hcap c hc').2⟩)
    rwa [Jgt _ _ _ hn] at this
   cases cap with
   | some c =>
    by_cases hc : n + m.length ≤ c
    ·obtain ⟨a1, a2, a3⟩ := here (by have := (hcap c rfl).2; omega) (fun c' hc' => by cases hc'; exact hc)
     refine ⟨_, _, hgen _ _ ?_, a2, a3, fun i hi => .inl hi, fun i hi hn => by show (st.box.put id _).get i = _; rw [Tr.get_put, if_neg (show ¬ i = id from hn)]⟩
     rw [show QV cs.length 0 n m.length 1 (some c) = .here from by simp only [QV, Nat.ble_eq_true_of_le hc]]
     exact a1
    ·refine ⟨_, _, hgen (.ms st.ctr 0 (n + m.length) 1 none) { ctr := st.ctr + 1, box := st.box.put st.ctr (.cells (cs.take n ++ m) e false (some 0)) } ?_, knew _ _ fun _ _ => rfl, mnew _, fun i hi => .inr (Nat.le_of_eq (show i = st.ctr from hi).symm), fun i hi _ => by show (st.box.put st.ctr _).get i = _; rw [Tr.get_put, if_neg (by omega)]⟩
     have hcb : Nat.ble (n + m.length) c = false := by
      cases hx : Nat.ble (n + m.length) c with
      | false => rfl
      | true => exact absurd (Nat.le_of_ble_eq_true hx) hc
     rw [show QV cs.length 0 n m.length 1 (some c) = .fresh from by simp only [QV, hcb]]
   | none =>
    by_cases hc : n + m.length ≤ cs.length
    ·obtain ⟨a1, a2, a3⟩ := here hc (fun c' hc' => by cases hc')
     refine ⟨_, _, hgen _ _ ?_, a2, a3, fun i hi => .inl hi, fun i hi hn => by show (st.box.put id _).get i = _; rw [Tr.get_put, if_neg (show ¬ i = id from hn)]⟩
     rw [show QV cs.length 0 n m.length 1 none = .here from by simp only [QV, Nat.ble_eq_true_of_le (show 0 + (n + m.length) * 1 ≤ cs.length by omega)]]
     exact a1
    ·refine ⟨_, _, hgen (.ms st.ctr 0 (n + m.length) 1 none) { ctr := st.ctr + 1, box := (st.box.del id).put st.ctr (.cells (cs.take n ++ m) e false (some 0)) } ?_, knew _ _ fun i hi => by rw [Tr.get_del, if_neg (by omega)], mnew _, fun i hi => .inr (Nat.le_of_eq (show i = st.ctr from hi).symm), fun i hi hn => by show ((st.box.del id).put st.ctr _).get i = _; rw [Tr.get_put, if_neg (by omega), Tr.get_del, if_neg (show ¬ i = id from hn)]⟩
     have hcb : Nat.ble (0 + (n + m.length) * 1) cs.length = false := by
      cases hx : Nat.ble (0 + (n + m.length) * 1) cs.length with
      | false => rfl
      | true => exact absurd (Nat.le_of_ble_eq_true hx) (by omega)
     rw [show QV cs.length 0 n m.length 1 none = .gone from by simp only [QV, hcb]]
     simp only [hfz, hee, Bool.and_self]
     rfl
theorem Mine.push {i : TypeInfo} {z : V} (hT : P.underlying T = some (.slice e)) (hi : P.info? e = some i) (hs : i.size = 1) (hzv : Q7 P e = some z) (hzc : z.cells.length = 1) {st : St} {x s : V} {l m : List V} {lo : Nat} (h : Mine lo e st x l)
  (hm : JcM st s m) (hlo : lo ≤ st.ctr) (hb1 : (l.length + m.length) * i.bytes ≤ Jr) (hb2 : l.length + m.length ≤ Jr) :
  ∃ y st', J0 P st T x s = some (y, st') ∧ Low lo st st' ∧ Mine lo e st' y (l ++ m) ∧ ∀ i, vid y i → vid x i ∨ st.ctr ≤ i := by
 obtain ⟨y, st', h1, h2, h3, h4, _⟩ := h.push2 hT hi hs hzv hzc hm hlo hb1 hb2
 exact ⟨y, st', h1, h2, h3, h4⟩
theorem Mine.set (hz : JR P e = some 1) {st : St} {x v : V} {l : List V} {lo i : Nat} (h : Mine lo e st x l) (hi : i < l.length) (hv : JiS v = true) :
  ∃ st', JaN P st e (adr 1 x i) v = some st' ∧ Low lo st st' ∧ Mine lo e st' x (l.set i v) := by
 cases h with
 | nils => simp at hi
 | ms id n cap cs fl hlo hid hb hn hcap =>
  have hi' : i < cs.length := by simp at hi; omega
  have hin : i < n := by simp at hi; omega
  refine ⟨{ st with box := st.box.put id (.cells (cs.set i v) e fl (some 0)) }, by simp only [adr, Nat.zero_add, Nat.mul_one]; exact QB hz hb hi' hv, ⟨Nat.le_refl _, fun j hj => by show (st.box.put id _).get j = _; rw [Tr.get_put, if_neg (by omega)]⟩, ?_⟩
  have := Mine.ms (lo := lo) (e := e) (st := { st with box := st.box.put id (.cells (cs.set i v) e fl (some 0)) }) id n cap (cs.set i v) fl hlo hid (by show (st.box.put id _).get _ = _; rw [Tr.get_put, if_pos rfl]) (by simpa using hn) (fun c hc => by simpa using hcap c hc)
  rwa [List.take_set] at this
theorem Mine.len (hT : P.underlying T = some (.slice e)) {st : St} {x : V} {l : List V} {lo : Nat} (h : Mine lo e st x l) : QU P T x = some (.int .i64 (l.length : Int)) := by
 cases h with
 | nils => simp [QU, hT]
 | ms id n cap cs fl hlo hid hb hn hcap => simp [QU, hT, Nat.min_eq_left hn]
theorem Mine.ix (hT : P.underlying T = some (.slice e)) (hz : JR P e = some 1) {st : St} {x : V} {l : List V} {lo : Nat} (h : Mine lo e st x l) {k : IntKind} {a : Int} (h0 : 0 ≤ a) (h1 : a < (l.length : Int)) :
  Jd P T x (.int k a) = some (adr 1 x a.toNat) := by
 have h2 := Jej (k := k) h0
 cases h with
 | nils => simp at h1; omega
 | ms id n cap cs fl hlo hid hb hn hcap =>
  have hb : Nat.blt a.toNat n = true := by rw [JaU]; simp at h1; exact decide_eq_true (by omega)
  simp only [Jd, hT, h2, hz, hb, adr]
theorem Mine.mk {lo : Nat} {st : St} {id n : Nat} {cs : List V} {fl : Bool} (hlo : lo ≤ id) (hid : id < st.ctr) (hb : st.box.get id = some (.cells cs e fl (some 0))) (hn : cs.length = n) : Mine lo e st (.ms id 0 n 1 (some n)) cs := by
 have := Mine.ms (lo := lo) (e := e) (st := st) id n (some n) cs fl hlo hid hb (by omega) (fun c hc => by cases hc; omega)
 rwa [List.take_of_length_le (by omega)] at this
end Go.Vm
namespace Go.Sy
def QP (b : UInt8) : Bool := b == 95 || (decide (97 ≤ (b.toNat ||| 32)) && decide ((b.toNat ||| 32) ≤ 122))
def Jb5 (b : UInt8) : Bool := decide (48 ≤ b.toNat) && decide (b.toNat ≤ 57)
def QR : List UInt8 → Bool
 | [] => false
 | b :: r => QP b && (b :: r).all (fun c => QP c || Jb5 c) && decide ((b :: r).length ≤ 64)
def Jau (l : List UInt8) : Bool := (match l with
 | [b] => [49, 50, 51, 52, 53, 54, 55, 56, 57, 35, 63].elem b
 | _ => false) || QR l
def specials : List UInt8 := [32, 9, 10, 39, 34, 92, 36, 59, 38, 124, 60, 62, 40, 41, 42, 63, 91, 96, 0]
def JcN (l : List UInt8) (first : Bool) : Bool := !l.isEmpty && l.all (fun c => !specials.elem c) && !(first && (l.head? == some 35 || l.head? == some 126))
end Go.Sy
namespace Go.Vm
open Go Go.Proofs Go.Sy
set_option maxRecDepth 100000
attribute [local simp] Oks J8 Jj Jo vop Js Jy ev evs toV andThen inBlock Jn Fr.dsTo Fr.glTo Fr.toNone Jk Jl Jm J6 Jc Jz Jw V.undef JU J9 Qk
class NY [Memo] : Prop where
 no : ∀ f, Nat.beq f 147 = false → Nat.beq f 145 = false → (Nat.beq f 6 || Nat.beq f 124) = false → ∀ args st, (Memo.look f).run args st = none
def Jof (s o : S) (v : V) : Prop := ∃ a b ok, v = .tup [.str a, .str b, .bool ok] ∧
 ((ok = true ∧ a.toList = s.toList.takeWhile (· ≠ (o.at 0).toUInt8) ∧ s.toList = a.toList ++ (o.at 0).toUInt8 :: b.toList) ∨ (ok = false ∧ (o.at 0).toUInt8 ∉ s.toList ∧ a.n ≤ s.n))
theorem Jbn {c : UInt8} : ∀ {l : List UInt8}, c ∈ l → l = l.takeWhile (· ≠ c) ++ c :: l.drop ((l.takeWhile (· ≠ c)).length + 1)
 | [], h => by simp at h
 | b :: l, h => by
  by_cases hb : b = c
  ·subst hb; simp
  ·have hm : c ∈ l := by
    rcases List.mem_cons.1 h with h | h
    ·exact absurd h.symm hb
    ·exact h
   rw [List.takeWhile_cons_of_pos (by simpa using hb)]
   simp only [List.cons_append, List.length_cons, List.drop_succ_cons]
   rw [← Jbn hm]
theorem JiM : ∀ c : Nat, c < 256 → QP (UInt8.ofNat c) = ((decide (97 ≤ c) && decide (c ≤ 122)) || (decide (65 ≤ c) && decide (c ≤ 90)) || decide (c = 95)) := by decide +kernel
variable [Memo] [NY]
theorem Jfp (gl : Gl) (st : St) (s : S) (c : Nat) :
  W Tryz.prog (.call gl 70 [.str s, .int .u8 (c : Int)]) st = .call (.val (.int .i64 (Lib.indexByte s.toList c.toUInt8)) st) := by
 have hx : Jal Tryz.prog Tryz.f98 [.str s, .int .u8 (c : Int)] = some (.int .i64 (Lib.indexByte s.toList c.toUInt8)) := Jgf (by kernel_rfl) (by kernel_rfl) s c
 have hb : Tryz.f98.body = none := rfl
 have hm : (Tryz.f98.name == "runtime.NumGoroutine") = false := by kernel_rfl
 refine Qg (NY.no _ rfl rfl rfl _ _) Tryz.func70 rfl (by kernel_rfl) ?_
 repeat refine Does.seq ?_
 refine Does.region ?_
 simp
 repeat refine Does.seq ?_
 refine Does.region ?_
 simp [Jd2 Tryz.func98 hm hb hx]
 refine Does.ret ?_
 simp []
theorem JdN (gl : Gl) (st : St) (s : S) (c : Nat) :
  W Tryz.prog (.call gl 41 [.str s, .int .u8 (c : Int)]) st = .call (.val (.int .i64 (Lib.indexByte s.toList c.toUInt8)) st) := by
 have hc := Jh (Jfp gl st s c)
 have hk : Jg Tryz.prog 70 = true := by kernel_rfl
 refine Qg (NY.no _ rfl rfl rfl _ _) Tryz.func41 rfl (by kernel_rfl) ?_
 repeat refine Does.seq ?_
 refine Does.region ?_
 simp
 repeat refine Does.seq ?_
 refine Does.region ?_
 simp [Ja hk, hc]
 refine Does.ret ?_
 simp []
theorem JjT (gl : Gl) (st : St) (s o : S) (ho : o.n = 1) :
  W Tryz.prog (.call gl 134 [.str s, .str o]) st = .call (.val (.int .i64 (Lib.indexByte s.toList (o.at 0).toUInt8)) st) := by
 have hc := Jh (Jfp gl st s (o.at 0))
 have hk : Jg Tryz.prog 70 = true := by kernel_rfl
 have hlo := QC Tryz.underlying9 (s := o)
 rw [ho] at hlo
 have hix := JY (P := Tryz.prog) (k := .i64) Tryz.underlying9 (s := o) (i := 0) (by omega)
 simp only [Int.cast_ofNat_Int] at hix
 refine Qg (NY.no _ rfl rfl rfl _ _) Tryz.func134 rfl (by kernel_rfl) ?_
 repeat refine Does.seq ?_
 refine Does.region ?_
 simp
 repeat refine Does.seq ?_
 refine Does.region ?_
 simp [hlo]
 repeat refine Does.seq ?_
 refine Does.block ?_
 repeat refine Does.seq ?_
 refine Does.region ?_
 cases hs : o.same s with
 | true =>
  simp [Jc0, Ji, hs]
  repeat refine Does.seq ?_
  refine Does.condT (by simp) ?_
  repeat refine Does.seq ?_
  refine Does.region ?_
  simp
  refine Does.ret ?_
  have h1 : Lib.indexByte s.toList (o.at 0).toUInt8 = 0 := by
   rw [S.same_eq, beq_iff_eq] at hs
   have := o.toList_at (i := 0) (by omega)
   rw [hs] at this
   cases hl : s.toList with
   | nil => rw [hl] at this; simp at this
   | cons b r =>
    rw [hl] at this
    simp at this
    subst this
    simp [Lib.indexByte]
  simp [h1]
 | false =>
  simp [Jc0, Ji, hs]
  repeat refine Does.seq ?_
  refine Does.condF (by simp) ?_
  repeat refine Does.seq ?_
  refine Does.region ?_
  simp [Jc0]
  repeat refine Does.seq ?_
  refine Does.condT (by simp) ?_
  repeat refine Does.seq ?_
  refine Does.region ?_
  simp [hix, Ja hk, hc]
  refine Does.ret ?_
  simp []
theorem JkH (gl : Gl) (st : St) (s o : S) (ho : o.n = 1) :
  W Tryz.prog (.call gl 119 [.str s, .str o]) st = .call (.val (.int .i64 (Lib.indexByte s.toList (o.at 0).toUInt8)) st) := by
 have hc := Jh (JjT gl st s o ho)
 have hk : Jg Tryz.prog 134 = true := by kernel_rfl
 refine Qg (NY.no _ rfl rfl rfl _ _) Tryz.func119 rfl (by kernel_rfl) ?_
 repeat refine Does.seq ?_
 refine Does.region ?_
 simp
 repeat refine Does.seq ?_
 refine Does.region ?_
 simp [Ja hk, hc]
 refine Does.ret ?_
 simp []
theorem JdO (gl : Gl) (st : St) (s o : S) (ho : o.n = 1) :
  W Tryz.prog (.call gl 102 [.str s, .str o]) st = .call (.val (.bool (s.toList.elem (o.at 0).toUInt8)) st) := by
 have hc := Jh (JkH gl st s o ho)
 have hk : Jg Tryz.prog 119 = true := by kernel_rfl
 have hg := Jcv s.toList (o.at 0).toUInt8
 have he : s.toList.elem (o.at 0).toUInt8 = decide (0 ≤ Lib.indexByte s.toList (o.at 0).toUInt8) := by
  rw [Bool.eq_iff_iff, decide_eq_true_eq, hg]; simp
 generalize Lib.indexByte s.toList (o.at 0).toUInt8 = w at hc he
 refine Qg (NY.no _ rfl rfl rfl _ _) Tryz.func102 rfl (by kernel_rfl) ?_
 repeat refine Does.seq ?_
 refine Does.region ?_
 simp
 repeat refine Does.seq ?_
 refine Does.region ?_
 simp [Ja hk, hc, JaR]
 refine Does.ret ?_
 simp []
 simpa using he.symm
theorem JoX (gl : Gl) (st : St) (s o : S) (ho : o.n = 1) (hn : s.n < 4000000000000000000) :
  ∃ v st', W Tryz.prog (.call gl 121 [.str s, .str o]) st = .call (.val v st') ∧ Jof s o v ∧ Keep st st' := by
 have hc := Jh (JjT gl st s o ho)
 have hk : Jg Tryz.prog 134 = true := by kernel_rfl
 have hlo := QC Tryz.underlying9 (s := o)
 rw [ho] at hlo
 rw [JbB] at hc
 refine J3 (NY.no _ rfl rfl rfl _ _) Tryz.func121 rfl (by kernel_rfl) ?_
 repeat refine Does.seq ?_
 refine Does.region ?_
 simp
 repeat refine Does.seq ?_
 refine Does.region ?_
 by_cases hm : (o.at 0).toUInt8 ∈ s.toList
 ·rw [if_pos hm] at hc
  have hd := Jbn hm
  have hle : (s.toList.takeWhile (· ≠ (o.at 0).toUInt8)).length < s.n := by
   have := congrArg List.length hd
   simp only [List.length_append, List.length_cons, S.len] at this; omega
  generalize hi : (s.toList.takeWhile (· ≠ (o.at 0).toUInt8)).length = i at hc hd hle
  simp [Ja hk, hc]
  repeat refine Does.seq ?_
  refine Does.region ?_
  simp [JaR]
  repeat refine Does.seq ?_
  refine Does.condT (by simp) ?_
  repeat refine Does.seq ?_
  refine Does.draw (b := [0, 0, 3, 0, 0, 0, 32, 112, 248, 7, 1023, 2047]) (l := [0, 1, 2, 3, 4, 5, 6, 7, 8, 9, 10, 11]) (by kernel_rfl) (by kernel_rfl) (by kernel_rfl) ?_
  have h1 := Jei (P := Tryz.prog) Tryz.underlying9 (s := s) (hi := i) (by omega) (k' := .i64)
  have h2 := Jda (P := Tryz.prog) Tryz.underlying9 (s := s) (lo := i + 1) (by omega) (k := .i64)
  have hw := Jii (n := i) (m := 1) (by omega)
  simp at h2 hw
  simp [h1, hlo, Jq, hw, h2]
  refine Does.ret ?_
  simp
  refine ⟨⟨_, _, true, rfl, .inl ⟨rfl, ?_, ?_⟩⟩, (Keep.refl st).tick 12⟩
  ·rw [S.toList_cut s (Nat.zero_le _) (by omega), List.drop_zero, Nat.sub_zero, ← hi]
   exact (List.prefix_iff_eq_take.1 (List.takeWhile_prefix _)).symm
  ·rw [S.toList_cut s (Nat.zero_le _) (by omega), List.drop_zero, Nat.sub_zero, JeD s (by omega)]
   rw [show s.toList.take i = s.toList.takeWhile (· ≠ (o.at 0).toUInt8) by rw [← hi]; exact (List.prefix_iff_eq_take.1 (List.takeWhile_prefix _)).symm]
   exact hd
 ·rw [if_neg hm] at hc
  simp [Ja hk, hc]
  repeat refine Does.seq ?_
  refine Does.region ?_
  simp [JaR]
  repeat refine Does.seq ?_
  refine Does.condF (by simp) ?_
  refine Does.skip ?_
  simp
  repeat refine Does.seq ?_
  refine Does.region ?_
  simp
  refine Does.ret ?_
  simp
  exact ⟨⟨_, _, false, rfl, .inr ⟨rfl, hm, Nat.le_refl _⟩⟩, .refl st⟩
theorem Jng (gl : Gl) (st : St) (s o : S) (ho : o.n = 1) (hn : s.n < 4000000000000000000) :
  ∃ v st', W Tryz.prog (.call gl 104 [.str s, .str o]) st = .call (.val v st') ∧ Jof s o v ∧ Keep st st' := by
 obtain ⟨v, st1, hc, ⟨a, b, ok, rfl, hcut⟩, hk1⟩ := JoX gl st s o ho hn
 have hc := Jh hc
 have hk : Jg Tryz.prog 121 = true := by kernel_rfl
 refine J3 (NY.no _ rfl rfl rfl _ _) Tryz.func104 rfl (by kernel_rfl) ?_
 repeat refine Does.seq ?_
 refine Does.region ?_
 simp
 repeat refine Does.seq ?_
 refine Does.region ?_
 simp [Ja hk, hc]
 refine Does.ret ?_
 simp
 exact ⟨⟨a, b, ok, rfl, hcut⟩, hk1⟩
theorem JjU (gl : Gl) (st : St) (c : Nat) (hc : c < 256) : W Tryz.prog (.call gl 122 [.int .u8 (c : Int)]) st = .call (.val (.bool (QP (UInt8.ofNat c))) st) := by
 have e0 : ∀ kk, _ := fun kk => JkF (P := Tryz.prog) (kk := kk) (T := 5) hc
 have e1 : ∀ kk, Je Tryz.prog kk .eql 5 (.int .u8 (c : Int)) (.int .u8 95) = some (.bool (decide (c = 95))) := fun kk => JE rfl
 have e2 : ∀ kk, Je Tryz.prog kk .geq 5 (.int .u8 ((c ||| 32 : Nat) : Int)) (.int .u8 97) = some (.bool (decide (97 ≤ (c ||| 32)))) := fun kk => Jb4 rfl
 have e3 : ∀ kk, Je Tryz.prog kk .leq 5 (.int .u8 ((c ||| 32 : Nat) : Int)) (.int .u8 122) = some (.bool (decide ((c ||| 32) ≤ 122))) := fun kk => JbL rfl
 have hl : QP (UInt8.ofNat c) = (decide (c = 95) || (decide (97 ≤ (c ||| 32)) && decide ((c ||| 32) ≤ 122))) := by
  have ht : (UInt8.ofNat c).toNat = c := by simp; omega
  unfold QP
  rw [ht]
  congr 1
  rw [Bool.eq_iff_iff, beq_iff_eq, decide_eq_true_eq]
  exact JbA (b := 95) hc (by decide)
 rw [hl]
 clear hl
 generalize (c ||| 32) = d at e0 e2 e3
 generalize decide (c = 95) = b1 at e1
 generalize decide (97 ≤ d) = b2 at e2
 generalize decide (d ≤ 122) = b3 at e3
 refine Qg (NY.no _ rfl rfl rfl _ _) Tryz.func122 rfl (by kernel_rfl) ?_
 repeat refine Does.seq ?_
 refine Does.region ?_
 simp
 repeat refine Does.seq ?_
 refine Does.region ?_
 cases b1 <;> cases b2 <;> cases b3 <;> simp [e0, e1, e2, e3] <;> refine Does.ret ?_ <;> simp []
theorem JlK (gl : Gl) (st : St) (c : Nat) (hc : c < 256) (f : Nat) (hf : f = 123 ∨ f = 127) : W Tryz.prog (.call gl f [.int .u8 (c : Int)]) st = .call (.val (.bool (Jb5 (UInt8.ofNat c))) st) := by
 have e1 : ∀ kk, Je Tryz.prog kk .geq 5 (.int .u8 (c : Int)) (.int .u8 48) = some (.bool (decide (48 ≤ c))) := fun kk => Jb4 rfl
 have e2 : ∀ kk, Je Tryz.prog kk .leq 5 (.int .u8 (c : Int)) (.int .u8 57) = some (.bool (decide (c ≤ 57))) := fun kk => JbL rfl
 have hl : Jb5 (UInt8.ofNat c) = (decide (48 ≤ c) && decide (c ≤ 57)) := by
  have ht : (UInt8.ofNat c).toNat = c := by simp; omega
  unfold Jb5; rw [ht]
 rw [hl]
 clear hl
 generalize decide (48 ≤ c) = b1 at e1
 generalize decide (c ≤ 57) = b2 at e2
 rcases hf with rfl | rfl
 ·refine Qg (NY.no _ rfl rfl rfl _ _) Tryz.func123 rfl (by kernel_rfl) ?_
  repeat refine Does.seq ?_
  refine Does.region ?_
  simp
  repeat refine Does.seq ?_
  refine Does.region ?_
  cases b1 <;> cases b2 <;> simp [e1, e2] <;> refine Does.ret ?_ <;> simp []
 ·refine Qg (NY.no _ rfl rfl rfl _ _) Tryz.func127 rfl (by kernel_rfl) ?_
  repeat refine Does.seq ?_
  refine Does.region ?_
  simp
  repeat refine Does.seq ?_
  refine Does.region ?_
  cases b1 <;> cases b2 <;> simp [e1, e2] <;> refine Does.ret ?_ <;> simp []
theorem JjV (gl : Gl) (st : St) (c : Nat) (hc : c < 256) : W Tryz.prog (.call gl 126 [.int .u8 (c : Int)]) st = .call (.val (.bool (QP (UInt8.ofNat c))) st) := by
 have e1 : ∀ kk, Je Tryz.prog kk .geq 5 (.int .u8 (c : Int)) (.int .u8 97) = some (.bool (decide (97 ≤ c))) := fun kk => Jb4 rfl
 have e2 : ∀ kk, Je Tryz.prog kk .leq 5 (.int .u8 (c : Int)) (.int .u8 122) = some (.bool (decide (c ≤ 122))) := fun kk => JbL rfl
 have e3 : ∀ kk, Je Tryz.prog kk .geq 5 (.int .u8 (c : Int)) (.int .u8 65) = some (.bool (decide (65 ≤ c))) := fun kk => Jb4 rfl
 have e4 : ∀ kk, Je Tryz.prog kk .leq 5 (.int .u8 (c : Int)) (.int .u8 90) = some (.bool (decide (c ≤ 90))) := fun kk => JbL rfl
 have e5 : ∀ kk, Je Tryz.prog kk .eql 5 (.int .u8 (c : Int)) (.int .u8 95) = some (.bool (decide (c = 95))) := fun kk => JE rfl
 rw [JiM c hc]
 generalize decide (97 ≤ c) = b1 at e1
 generalize decide (c ≤ 122) = b2 at e2
 generalize decide (65 ≤ c) = b3 at e3
 generalize decide (c ≤ 90) = b4 at e4
 generalize decide (c = 95) = b5 at e5
 refine Qg (NY.no _ rfl rfl rfl _ _) Tryz.func126 rfl (by kernel_rfl) ?_
 repeat refine Does.seq ?_
 refine Does.region ?_
 simp
 repeat refine Does.seq ?_
 refine Does.region ?_
 cases b1 <;> cases b2 <;> cases b3 <;> cases b4 <;> cases b5 <;> simp [e1, e2, e3, e4, e5] <;> refine Does.ret ?_ <;> simp []
end Go.Vm
namespace Go.Vm
open Go Go.Proofs Go.Sy
set_option maxRecDepth 100000
attribute [local simp] Oks J8 Jj Jo vop Js Jy ev evs toV andThen inBlock Jn Fr.dsTo Fr.glTo Fr.toNone Jk Jl Jm J6 Jc Jz Jw V.undef JU J9 Qk
def Jdo (b : UInt8) : Bool := QP b || Jb5 b
theorem Jfq {s : S} (h : 0 < s.n) : QR s.toList = (QP (UInt8.ofNat (s.at 0)) && s.toList.all Jdo && decide (s.n ≤ 64)) := by
 have h1 := s.drop_at h
 rw [List.drop_zero] at h1
 have h2 : s.toList.length = s.n := S.len s
 generalize s.toList = l at h1 h2
 cases l with
 | nil => cases h1
 | cons b r =>
  simp only [List.cons.injEq] at h1
  rw [← h1.1]
  show (QP b && (b :: r).all (fun c => QP c || Jb5 c) && decide ((b :: r).length ≤ 64)) = _
  rw [h2]
  rfl
theorem JdP {s : S} {p : UInt8 → Bool} {n : Nat} (hn : n < s.n) : (s.toList.take (n + 1)).all p = ((s.toList.take n).all p && p (UInt8.ofNat (s.at n))) := by
 rw [List.take_add_one, s.toList_at hn]
 simp
theorem JgZ {s : S} {p : UInt8 → Bool} {n : Nat} (hn : n < s.n) (h : p (UInt8.ofNat (s.at n)) = false) : s.toList.all p = false := by
 cases ha : s.toList.all p with
 | false => rfl
 | true =>
  rw [List.all_eq_true] at ha
  have := ha _ (List.mem_of_getElem? (s.toList_at hn))
  rw [h] at this; cases this
theorem QH (s : S) : s.same (S.ofList []) = decide (s.n = 0) := by
 rw [S.same_eq, S.toList_ofList, Bool.eq_iff_iff, beq_iff_eq, decide_eq_true_eq]
 constructor
 ·intro h; rw [← S.len, h]; rfl
 ·intro h; exact List.eq_nil_of_length_eq_zero (by rw [S.len, h])
def Jn3 (s : S) (st : St) (e : AE) (fr : Fr) (st' : St) : Prop := e = AE.normal ∧ st' = st ∧ fr.ds = [] ∧ ∃ n : Nat, Fr.at fr 3 = .int .i64 (n : Int) ∧ n ≤ s.n ∧ decide (n = s.n) = QR s.toList
def JoY (s : S) (v : V) : Prop := ∃ n : Nat, v = .int .i64 (n : Int) ∧ n ≤ s.n ∧ (0 < s.n → decide (n = s.n) = QR s.toList)
variable [Memo] [NY]
theorem JjW (gl : Gl) (st : St) (s : S) (hs : s.n < 4000000000000000000) :
  ∃ v st', W Tryz.prog (.call gl 105 [.str s]) st = .call (.val v st') ∧ JoY s v ∧ st' = st := by
 have hk51 : Jg Tryz.prog 122 = true := by kernel_rfl
 have hk52 : Jg Tryz.prog 123 = true := by kernel_rfl
 have hlen := QC Tryz.underlying9 (s := s)
 refine J3 (NY.no _ rfl rfl rfl _ _) Tryz.func105 rfl (by kernel_rfl) ?_
 repeat refine Does.seq ?_
 refine Does.region ?_
 simp
 repeat refine Does.seq ?_
 refine Does.region ?_
 by_cases h0 : s.n = 0
 ·have hs0 : s.same (S.ofList []) = true := by rw [QH]; exact decide_eq_true h0
  simp [Ji, hs0]
  repeat refine Does.seq ?_
  refine Does.condT (by simp) ?_
  repeat refine Does.seq ?_
  refine Does.region ?_
  simp
  refine Does.ret ?_
  simp
  exact ⟨0, rfl, Nat.zero_le _, fun h => by omega⟩
 have hpos : 0 < s.n := by omega
 have hs0 : s.same (S.ofList []) = false := by rw [QH]; exact decide_eq_false h0
 have hix := JY (P := Tryz.prog) (k := .i64) Tryz.underlying9 hpos
 simp only [Int.cast_ofNat_Int] at hix
 have hle0 := Jh (JjU gl st (s.at 0) (s.at_lt 0))
 have hnm := Jfq hpos
 cases hl0 : QP (UInt8.ofNat (s.at 0)) with
 | false =>
  rw [hl0] at hle0 hnm
  simp [Ji, hs0, hix, Ja hk51, hle0]
  repeat refine Does.seq ?_
  refine Does.condT (by simp) ?_
  repeat refine Does.seq ?_
  refine Does.region ?_
  simp
  refine Does.ret ?_
  simp
  exact ⟨0, rfl, Nat.zero_le _, fun h => by rw [hnm, decide_eq_false (by omega)]; rfl⟩
 | true =>
  rw [hl0] at hle0 hnm
  rw [Bool.true_and] at hnm
  simp [Ji, hs0, hix, Ja hk51, hle0]
  repeat refine Does.seq ?_
  refine Does.condF (by simp) ?_
  refine Does.skip ?_
  simp
  repeat refine Does.seq ?_
  refine Does.region ?_
  simp
  repeat refine Does.seq ?_
  refine Does.mono (Q := Jn3 s st) ?loop ?tail
  case tail =>
   rintro e fr' st' ⟨rfl, rfl, hds, n, h3, hn, hd⟩
   simp
   repeat refine Does.seq ?_
   refine Does.region ?_
   simp [h3]
   refine Does.ret ?_
   simp [hds]
   exact ⟨n, rfl, hn, fun _ => hd⟩
  case loop =>
   refine Does.block (Does.up s.n (fun n fr st' => st' = st ∧ fr.ds = [] ∧ fr.gl = gl ∧ Fr.at fr 0 = .str s ∧ Fr.at fr 3 = .int .i64 (n : Int) ∧ n ≤ s.n ∧ 1 ≤ n ∧ n ≤ 64 ∧ (s.toList.take n).all Jdo = true) 1 ?init ?JH ?step)
   case init =>
    refine ⟨rfl, by simp, by simp, by simp, by simp, hpos, Nat.le_refl _, by omega, ?_⟩
    rw [JdP hpos]
    simp [Jdo, hl0]
   case JH => exact fun i fr st' h => h.2.2.2.2.2.1
   case step =>
    rintro n fr st' ⟨rfl, hds, hg, h0, h3, hn, hn1, hn64, hall⟩
    repeat refine Does.seq ?_
    refine Does.region ?_
    have e64 : ∀ kk, Je Tryz.prog kk .lss 3 (.int .i64 (n : Int)) (.int .i64 64) = some (.bool (decide (n < 64))) := fun kk => QN rfl
    have elen : ∀ kk, Je Tryz.prog kk .lss 3 (.int .i64 (n : Int)) (.int .i64 (s.n : Int)) = some (.bool (decide (n < s.n))) := fun kk => QN rfl
    have out : decide (n = s.n) = QR s.toList → (fr : Fr) → fr.ds = [] → Fr.at fr 3 = .int .i64 (n : Int) → Jn3 s st' .normal fr st' :=
     fun hd fr h1 h2 => ⟨rfl, rfl, h1, n, h2, hn, hd⟩
    by_cases hlt : n < s.n
    ·rw [decide_eq_true hlt] at elen
     by_cases h64 : n < 64
     ·rw [decide_eq_true h64] at e64
      have hix2 := JY (P := Tryz.prog) (k := .i64) Tryz.underlying9 hlt
      have hle := Jh (JjU gl st' (s.at n) (s.at_lt n))
      have hdi := Jh (JlK gl st' (s.at n) (s.at_lt n) 123 (.inl rfl))
      have hpb : Jdo (UInt8.ofNat (s.at n)) = (QP (UInt8.ofNat (s.at n)) || Jb5 (UInt8.ofNat (s.at n))) := rfl
      have hat := JdP (p := Jdo) hlt
      rw [hall, Bool.true_and] at hat
      have hno : Jdo (UInt8.ofNat (s.at n)) = false → decide (n = s.n) = QR s.toList := fun h => by
       rw [hnm, JgZ hlt h, decide_eq_false (by omega)]; rfl
      have w1 : IntKind.i64.wrap ((n : Int) + 1) = (n : Int) + 1 := Jp (by omega) (by omega)
      cases hll : QP (UInt8.ofNat (s.at n)) with
      | true =>
       rw [hll] at hle hpb
       simp [h0, h3, hlen, hg, elen, e64, hix2, Ja hk51, hle]
       repeat refine Does.seq ?_
       refine Does.condT (by simp) ?_
       refine Does.skip ?_
       simp
       refine Does.block ?_
       refine Does.region ?_
       simp [h3, Jq, w1]
       exact ⟨n + 1, by omega, hds, hg, h0, by simp, by omega, by omega, by omega, by rw [← List.all_eq_true, hat, hpb]; rfl⟩
      | false =>
       rw [hll] at hle hpb
       cases hdd : Jb5 (UInt8.ofNat (s.at n)) with
       | true =>
        rw [hdd] at hdi hpb
        simp [h0, h3, hlen, hg, elen, e64, hix2, Ja hk51, hle, Ja hk52, hdi]
        repeat refine Does.seq ?_
        refine Does.condT (by simp) ?_
        refine Does.skip ?_
        simp
        refine Does.block ?_
        refine Does.region ?_
        simp [h3, Jq, w1]
        exact ⟨n + 1, by omega, hds, hg, h0, by simp, by omega, by omega, by omega, by rw [← List.all_eq_true, hat, hpb]; rfl⟩
       | false =>
        rw [hdd] at hdi hpb
        simp [h0, h3, hlen, hg, elen, e64, hix2, Ja hk51, hle, Ja hk52, hdi]
        repeat refine Does.seq ?_
        refine Does.condF (by simp) ?_
        refine Does.exit ?_
        simp only [inBlock, if_true, andThen]
        exact out (hno hpb) _ (by simp [hds]) (by simp [h3])
     ·rw [decide_eq_false h64] at e64
      simp [h0, h3, hlen, elen, e64]
      repeat refine Does.seq ?_
      refine Does.condF (by simp) ?_
      refine Does.exit ?_
      simp only [inBlock, if_true, andThen]
      refine out ?_ _ (by simp [hds]) (by simp [h3])
      rw [hnm, decide_eq_false (show ¬ n = s.n by omega), decide_eq_false (show ¬ s.n ≤ 64 by omega)]
      simp
    ·rw [decide_eq_false hlt] at elen
     simp [h0, h3, hlen, elen]
     repeat refine Does.seq ?_
     refine Does.condF (by simp) ?_
     refine Does.exit ?_
     simp only [inBlock, if_true, andThen]
     refine out ?_ _ (by simp [hds]) (by simp [h3])
     have hns : n = s.n := by omega
     rw [hnm, decide_eq_true hns, decide_eq_true (show s.n ≤ 64 by omega)]
     rw [hns, List.take_of_length_le (by simp)] at hall
     rw [hall]; rfl
theorem JhO (gl : Gl) (st : St) (s : S) (hs : s.n < 4000000000000000000) :
  W Tryz.prog (.call gl 114 [.str s]) st = .call (.val (.bool (QR s.toList)) st) := by
 have hk54 : Jg Tryz.prog 126 = true := by kernel_rfl
 have hk55 : Jg Tryz.prog 127 = true := by kernel_rfl
 have hlen := QC Tryz.underlying9 (s := s)
 refine Qg (NY.no _ rfl rfl rfl _ _) Tryz.func114 rfl (by kernel_rfl) ?_
 repeat refine Does.seq ?_
 refine Does.region ?_
 simp
 repeat refine Does.seq ?_
 refine Does.region ?_
 by_cases h0 : s.n = 0
 ·have hs0 : s.same (S.ofList []) = true := by rw [QH]; exact decide_eq_true h0
  have hnl : QR s.toList = false := by
   have : s.toList = [] := List.eq_nil_of_length_eq_zero (by rw [S.len, h0])
   rw [this]; rfl
  simp [Ji, hs0]
  repeat refine Does.seq ?_
  refine Does.condT (by simp) ?_
  repeat refine Does.seq ?_
  refine Does.region ?_
  simp
  refine Does.ret ?_
  simp [hnl]
 have hpos : 0 < s.n := by omega
 have hs0 : s.same (S.ofList []) = false := by rw [QH]; exact decide_eq_false h0
 have hnm := Jfq hpos
 generalize hA : s.toList.all Jdo = A at hnm
 have e64 : ∀ kk, Je Tryz.prog kk .gtr 3 (.int .i64 (s.n : Int)) (.int .i64 64) = some (.bool (decide (64 < s.n))) := fun kk => Jbd rfl
 by_cases h64 : 64 < s.n
 ·rw [decide_eq_true h64] at e64
  rw [decide_eq_false (show ¬ s.n ≤ 64 by omega), Bool.and_false] at hnm
  simp [Ji, hs0, hlen, e64]
  repeat refine Does.seq ?_
  refine Does.condT (by simp) ?_
  repeat refine Does.seq ?_
  refine Does.region ?_
  simp
  refine Does.ret ?_
  simp [hnm]
 rw [decide_eq_false h64] at e64
 rw [decide_eq_true (show s.n ≤ 64 by omega), Bool.and_true] at hnm
 have hix := JY (P := Tryz.prog) (k := .i64) Tryz.underlying9 hpos
 simp only [Int.cast_ofNat_Int] at hix
 have hle0 := Jh (JjV gl st (s.at 0) (s.at_lt 0))
 cases hl0 : QP (UInt8.ofNat (s.at 0)) with
 | false =>
  rw [hl0] at hle0 hnm
  rw [Bool.false_and] at hnm
  simp [Ji, hs0, hlen, e64, hix, Ja hk54, hle0]
  repeat refine Does.seq ?_
  refine Does.condT (by simp) ?_
  repeat refine Does.seq ?_
  refine Does.region ?_
  simp
  refine Does.ret ?_
  simp [hnm]
 | true =>
  rw [hl0] at hle0 hnm
  rw [Bool.true_and] at hnm
  simp [Ji, hs0, hlen, e64, hix, Ja hk54, hle0]
  repeat refine Does.seq ?_
  refine Does.condF (by simp) ?_
  refine Does.skip ?_
  simp
  repeat refine Does.seq ?_
  refine Does.region ?_
  simp
  refine Does.mono (Q := fun e fr' st' => st' = st ∧ fr'.ds = [] ∧ ((e = AE.ret ∧ Fr.at fr' 2 = .bool false ∧ A = false) ∨ (e = AE.normal ∧ A = true))) ?loop ?tail
  case tail =>
   rintro e fr' st' ⟨rfl, hds, ⟨rfl, h2, ha⟩ | ⟨rfl, ha⟩⟩
   ·simp only [andThen]
    simp [hds, h2, hnm, ha]
   ·simp only [andThen]
    repeat refine Does.seq ?_
    refine Does.region ?_
    simp
    refine Does.ret ?_
    rw [hnm, ha]
    simp [hds]
  case loop =>
   refine Does.block (Does.up s.n (fun n fr st' => st' = st ∧ fr.ds = [] ∧ fr.gl = gl ∧ Fr.at fr 0 = .str s ∧ Fr.at fr 3 = .int .i64 (n : Int) ∧ n ≤ s.n ∧ (s.toList.take n).all Jdo = true) 0 ?init ?JH ?step)
   case init => exact ⟨rfl, by simp, by simp, by simp, by simp, Nat.zero_le _, by simp⟩
   case JH => exact fun i fr st' h => h.2.2.2.2.2.1
   case step =>
    rintro n fr st' ⟨rfl, hds, hg, h0, h3, hn, hall⟩
    repeat refine Does.seq ?_
    refine Does.region ?_
    have elen : ∀ kk, Je Tryz.prog kk .lss 3 (.int .i64 (n : Int)) (.int .i64 (s.n : Int)) = some (.bool (decide (n < s.n))) := fun kk => QN rfl
    by_cases hlt : n < s.n
    ·rw [decide_eq_true hlt] at elen
     have hix2 := JY (P := Tryz.prog) (k := .i64) Tryz.underlying9 hlt
     have hle := Jh (JjV gl st' (s.at n) (s.at_lt n))
     have hdi := Jh (JlK gl st' (s.at n) (s.at_lt n) 127 (.inr rfl))
     have hpb : Jdo (UInt8.ofNat (s.at n)) = (QP (UInt8.ofNat (s.at n)) || Jb5 (UInt8.ofNat (s.at n))) := rfl
     have hat := JdP (p := Jdo) hlt
     rw [hall, Bool.true_and] at hat
     have w1 : IntKind.i64.wrap ((n : Int) + 1) = (n : Int) + 1 := Jp (by omega) (by omega)
     simp [h0, h3, hlen, elen]
     repeat refine Does.seq ?_
     refine Does.condT (by simp) ?_
     refine Does.skip ?_
     simp
     repeat refine Does.seq ?_
     refine Does.block ?_
     repeat refine Does.seq ?_
     refine Does.region ?_
     cases hll : QP (UInt8.ofNat (s.at n)) with
     | true =>
      rw [hll] at hle hpb
      simp [h0, h3, hg, hix2, Ja hk54, hle]
      repeat refine Does.seq ?_
      refine Does.condF (by simp) ?_
      refine Does.skip ?_
      simp
      refine Does.region ?_
      simp [h3, Jq, w1]
      exact ⟨n + 1, by omega, hds, hg, h0, by simp, by omega, by rw [← List.all_eq_true, hat, hpb]; rfl⟩
     | false =>
      rw [hll] at hle hpb
      cases hdd : Jb5 (UInt8.ofNat (s.at n)) with
      | true =>
       rw [hdd] at hdi hpb
       simp [h0, h3, hg, hix2, Ja hk54, hle, Ja hk55, hdi]
       repeat refine Does.seq ?_
       refine Does.condF (by simp) ?_
       refine Does.skip ?_
       simp
       refine Does.region ?_
       simp [h3, Jq, w1]
       exact ⟨n + 1, by omega, hds, hg, h0, by simp, by omega, by rw [← List.all_eq_true, hat, hpb]; rfl⟩
      | false =>
       rw [hdd] at hdi hpb
       simp [h0, h3, hg, hix2, Ja hk54, hle, Ja hk55, hdi]
       repeat refine Does.seq ?_
       refine Does.condT (by simp) ?_
       repeat refine Does.seq ?_
       refine Does.region ?_
       simp
       refine Does.ret ?_
       simp only [inBlock, andThen]
       exact ⟨trivial, by simp [hds], .inl ⟨trivial, by simp, by rw [← hA]; exact JgZ hlt hpb⟩⟩
    ·rw [decide_eq_false hlt] at elen
     simp [h0, h3, hlen, elen]
     repeat refine Does.seq ?_
     refine Does.condF (by simp) ?_
     refine Does.exit ?_
     simp only [inBlock, if_true, andThen]
     rw [List.take_of_length_le (by simp; omega)] at hall
     exact ⟨trivial, by simp [hds], .inr ⟨trivial, hA.symm.trans hall⟩⟩
theorem Jn4 (gl : Gl) (st : St) (c : Nat) (hc : c < 256) (s : S) (hs : s.n < 4000000000000000000) :
  W Tryz.prog (.call gl 97 [.int .u8 (c : Int), .str s]) st = .call (.val (.bool (s.toList.elem (UInt8.ofNat c))) st) := by
 have hlen := QC Tryz.underlying9 (s := s)
 generalize hA : s.toList.elem (UInt8.ofNat c) = A
 refine Qg (NY.no _ rfl rfl rfl _ _) Tryz.func97 rfl (by kernel_rfl) ?_
 repeat refine Does.seq ?_
 refine Does.region ?_
 simp
 repeat refine Does.seq ?_
 refine Does.region ?_
 simp
 refine Does.mono (Q := fun e fr' st' => st' = st ∧ fr'.ds = [] ∧ ((e = AE.ret ∧ Fr.at fr' 4 = .bool true ∧ A = true) ∨ (e = AE.normal ∧ A = false))) ?loop ?tail
 case tail =>
  rintro e fr' st' ⟨rfl, hds, ⟨rfl, h2, ha⟩ | ⟨rfl, ha⟩⟩
  ·simp only [andThen]
   rw [ha]
   simp [hds, h2]
  ·simp only [andThen]
   rw [ha]
   repeat refine Does.seq ?_
   refine Does.region ?_
   simp
   refine Does.ret ?_
   simp [hds]
 case loop =>
  refine Does.block (Does.up s.n (fun n fr st' => st' = st ∧ fr.ds = [] ∧ Fr.at fr 0 = .int .u8 (c : Int) ∧ Fr.at fr 1 = .str s ∧ Fr.at fr 5 = .int .i64 (n : Int) ∧ n ≤ s.n ∧ (s.toList.take n).elem (UInt8.ofNat c) = false) 0 ?init ?JH ?step)
  case init => exact ⟨rfl, by simp, by simp, by simp, by simp, Nat.zero_le _, by simp⟩
  case JH => exact fun i fr st' h => h.2.2.2.2.2.1
  case step =>
   rintro n fr st' ⟨rfl, hds, h0, h1, h5, hn, hall⟩
   repeat refine Does.seq ?_
   refine Does.region ?_
   have elen : ∀ kk, Je Tryz.prog kk .lss 3 (.int .i64 (n : Int)) (.int .i64 (s.n : Int)) = some (.bool (decide (n < s.n))) := fun kk => QN rfl
   by_cases hlt : n < s.n
   ·rw [decide_eq_true hlt] at elen
    have hix2 := JY (P := Tryz.prog) (k := .i64) Tryz.underlying9 hlt
    have ec : ∀ kk, Je Tryz.prog kk .eql 5 (.int .u8 (s.at n : Int)) (.int .u8 (c : Int)) = some (.bool (decide (s.at n = c))) := fun kk => JE rfl
    have w1 : IntKind.i64.wrap ((n : Int) + 1) = (n : Int) + 1 := Jp (by omega) (by omega)
    simp [h1, h5, hlen, elen]
    repeat refine Does.seq ?_
    refine Does.condT (by simp) ?_
    refine Does.skip ?_
    simp
    repeat refine Does.seq ?_
    refine Does.block ?_
    repeat refine Does.seq ?_
    refine Does.region ?_
    by_cases hcc : s.at n = c
    ·rw [decide_eq_true hcc] at ec
     simp [h0, h1, h5, hix2, ec]
     repeat refine Does.seq ?_
     refine Does.condT (by simp) ?_
     repeat refine Does.seq ?_
     refine Does.region ?_
     simp
     refine Does.ret ?_
     simp only [inBlock, andThen]
     refine ⟨trivial, by simp [hds], .inl ⟨trivial, by simp, ?_⟩⟩
     have := List.mem_of_getElem? (s.toList_at hlt)
     rw [hcc] at this
     rw [← hA]
     simpa using this
    ·rw [decide_eq_false hcc] at ec
     simp [h0, h1, h5, hix2, ec]
     repeat refine Does.seq ?_
     refine Does.condF (by simp) ?_
     refine Does.skip ?_
     simp
     refine Does.region ?_
     simp [h5, Jq, w1]
     refine ⟨n + 1, by omega, hds, h0, h1, by simp, by omega, ?_⟩
     have hne : ¬ UInt8.ofNat c = UInt8.ofNat (s.at n) := fun h => hcc ((JbA hc (s.at_lt n)).1 h).symm
     rw [List.take_add_one, s.toList_at hlt]
     simp only [List.elem_eq_mem, decide_eq_false_iff_not] at hall
     simpa [hne] using hall
   ·rw [decide_eq_false hlt] at elen
    simp [h1, h5, hlen, elen]
    repeat refine Does.seq ?_
    refine Does.condF (by simp) ?_
    refine Does.exit ?_
    simp only [inBlock, if_true, andThen]
    rw [List.take_of_length_le (by simp; omega)] at hall
    exact ⟨trivial, by simp [hds], .inr ⟨trivial, hA.symm.trans hall⟩⟩
end Go.Vm
