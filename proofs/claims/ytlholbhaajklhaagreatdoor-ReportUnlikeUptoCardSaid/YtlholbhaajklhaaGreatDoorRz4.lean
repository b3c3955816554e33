/- Rules for walks: a frame as a row of slots, a call's JiB, operations as equations with side conditions (found by omega). -/
import Derived.Test.YtlholbhaajklhaaGreatDoorRz0
import Derived.Test.YtlholbhaajklhaaGreatDoorRz3
namespace Go.Vm
open Go
def Fs (gl : Gl) : List (Nat × V) → Fr → Prop
 | [], fr => fr.ds = [] ∧ fr.gl = gl
 | (k, v) :: r, fr => Fr.at fr k = v ∧ Fs gl r fr
def Sm (st st' : St) : Prop := st' = st
variable {P : Program} {rd : Option Nat} {fr : Fr} {st : St} {Q : AE → Fr → St → Prop}
def Says [Memo] (P : Program) (gl : Gl) (f : Nat) (args : List V) (st : St) (R : V → St → Prop) : Prop := ∃ v st', W P (.call gl f args) st = .call (.val v st') ∧ R v st'
theorem Says.use [Memo] {gl : Gl} {f : Nat} {args : List V} {R : V → St → Prop} (h : Says P gl f args st R) (hk : JN P f = true := by kernel_rfl) : ∃ v st', Jax P (ihCall (W P)) gl f args st = .val v st' ∧ R v st' := by
 obtain ⟨v, st', h1, h2⟩ := h
 exact ⟨v, st', by rw [Jp hk, J1 h1], h2⟩
theorem Says.mono [Memo] {gl : Gl} {f : Nat} {args : List V} {R R' : V → St → Prop} (h : Says P gl f args st R) (k : ∀ v st', R v st' → R' v st') : Says P gl f args st R' := by
 obtain ⟨v, st', h1, h2⟩ := h
 exact ⟨v, st', h1, k _ _ h2⟩
def JM (P : Program) (fn : Func) (R : V → St → Prop) (e : AE) (fr : Fr) (st : St) : Prop := (e = .ret ∨ e = .normal) ∧ fr.ds = [] ∧ ∃ vs, Jc (Jt P fr st) fn.results.toList = some vs ∧ R (JF vs) st
theorem Jo0 [Memo] {gl : Gl} {f : Nat} {args : List V} {fn : Func} {c : Code} {R : V → St → Prop} (hn : (Memo.look f).run args st = none) (hf : P.funcs[f]? = some fn) (hb : fn.body = some c)
  (hs : (Nat.ble args.length fn.ntmps && JO fn.ntmps c) = true) (h : DoR P none c (JH gl args) st (JM P fn R)) : Says P gl f args st R := JaK hn hf hb hs h
theorem Jpq [Memo] {ops : Array Oper} (a : List Oper) : ∀ (b : List Oper) (fr : Fr) (st : St), Qe P (ihCall (W P)) rd ops (a ++ b) fr st =
  match Qe P (ihCall (W P)) rd ops a fr st with
  | .ok fr1 st1 => Qe P (ihCall (W P)) rd ops b fr1 st1
  | r => r := by
 induction a with
 | nil => intro b fr st; rfl
 | cons o r ih =>
  intro b fr st
  simp only [List.cons_append, Qe]
  cases Je ops fr o with
  | false => exact ih ..
  | true =>
   cases Jk o.op with
   | false =>
    cases vop P (ihCall (W P)) fr st o.op with
    | val v st' => exact ih ..
    | panic v st' => rfl
    | fail w => rfl
   | true =>
    generalize JcA P fr o.op = d
    cases rd with
    | some r => rfl
    | none => cases d with
     | none => rfl
     | some d => exact ih ..
section
variable {kk : Bool} {T : TypeId} {q : IntKind} {a b : Nat}
theorem Qg : Jf P kk .eql T (.int q (a : Int)) (.int q (b : Int)) = some (.bool (decide (a = b))) := JdR rfl
theorem J8 : Jf P kk .neq T (.int q (a : Int)) (.int q (b : Int)) = some (.bool (!decide (a = b))) := Jgf rfl
theorem J9 : Jf P kk .lss T (.int q (a : Int)) (.int q (b : Int)) = some (.bool (decide (a < b))) := Jb2 rfl
theorem Qa : Jf P kk .leq T (.int q (a : Int)) (.int q (b : Int)) = some (.bool (decide (a ≤ b))) := Jj7 rfl
theorem Qh : Jf P kk .gtr T (.int q (a : Int)) (.int q (b : Int)) = some (.bool (decide (b < a))) := JeJ rfl
theorem Qi : Jf P kk .geq T (.int q (a : Int)) (.int q (b : Int)) = some (.bool (decide (b ≤ a))) := JmZ rfl
theorem JT : Jf P kk .eql T (.int q (a : Int)) (.int q (no_index (OfNat.ofNat b : Int))) = some (.bool (decide (a = OfNat.ofNat b))) := JdR rfl
theorem Qb : Jf P kk .neq T (.int q (a : Int)) (.int q (no_index (OfNat.ofNat b : Int))) = some (.bool (!decide (a = OfNat.ofNat b))) := Jgf rfl
theorem Qj : Jf P kk .lss T (.int q (a : Int)) (.int q (no_index (OfNat.ofNat b : Int))) = some (.bool (decide (a < OfNat.ofNat b))) := Jb2 rfl
theorem Qc : Jf P kk .leq T (.int q (a : Int)) (.int q (no_index (OfNat.ofNat b : Int))) = some (.bool (decide (a ≤ OfNat.ofNat b))) := Jj7 rfl
theorem JR : Jf P kk .gtr T (.int q (a : Int)) (.int q (no_index (OfNat.ofNat b : Int))) = some (.bool (decide (OfNat.ofNat b < a))) := JeJ rfl
theorem Qk : Jf P kk .geq T (.int q (a : Int)) (.int q (no_index (OfNat.ofNat b : Int))) = some (.bool (decide (OfNat.ofNat b ≤ a))) := JmZ rfl
end
section
variable {kk : Bool} {T : TypeId} {k : IntKind} {a b : Int}
theorem Qd : Jf P kk .mul T (.int k a) (.int k b) = some (.int k (k.wrap (a * b))) := by simp [Jf]
theorem JiL (hb : b ≠ 0) : Jf P kk .quo T (.int k a) (.int k b) = some (.int k (k.wrap (a.tdiv b))) := by
 have h : Jf P kk .quo T (.int k a) (.int k b) = QO P (fun l => binOp .quo T (l.getD 0 undef) (l.getD 1 undef)) [.int k a, .int k b] := by simp [Jf]
 rw [h]
 have h2 : QS P (binOp .quo T (.int k a) (.int k b)) = some (.int k (k.wrap (a.tdiv b))) := by
  simp only [binOp, Op.intDiv, ne_eq, not_true_eq_false, if_false, if_neg hb]
  rfl
 simp only [QO, Jc, ofV]
 show (match QS P (binOp .quo T (.int k a) (.int k b)) with
  | some v => toV 6 v
  | none => none) = _
 rw [h2]
 rfl
theorem JmP (hb : b ≠ 0) : Jf P kk .rem T (.int k a) (.int k b) = some (.int k (a.tmod b)) := by
 have h : Jf P kk .rem T (.int k a) (.int k b) = QO P (fun l => binOp .rem T (l.getD 0 undef) (l.getD 1 undef)) [.int k a, .int k b] := by simp [Jf]
 rw [h]
 have h2 : QS P (binOp .rem T (.int k a) (.int k b)) = some (.int k (a.tmod b)) := by
  simp only [binOp, Op.intDiv, ne_eq, not_true_eq_false, if_false, if_neg hb]
  rfl
 simp only [QO, Jc, ofV]
 show (match QS P (binOp .rem T (.int k a) (.int k b)) with
  | some v => toV 6 v
  | none => none) = _
 rw [h2]
 rfl
end
def adr (z : Nat) : V → Nat → V
 | .sl _ cs _, i => .cp (cs.drop (i * z))
 | .ms id off _ _ _, i => .ptr id (off + i * z)
 | _, _ => .undef
theorem JlO {k : IntKind} {a : Int} (h : 0 ≤ a) : JaC (.int k a) = some a.toNat := by
 obtain ⟨n, rfl⟩ := Int.eq_ofNat_of_zero_le h
 rfl
theorem Vw.ix {T e : TypeId} (hT : P.underlying T = some (.slice e)) (hz : JU P e = some 1) {x : V} {l : List S} (hv : Vw st x l) {k : IntKind} {a : Int} (h0 : 0 ≤ a) (h1 : a < (l.length : Int)) :
  Jd P T x (.int k a) = some (adr 1 x a.toNat) := by
 have h2 := JlO (k := k) h0
 have hb : Nat.blt a.toNat l.length = true := by rw [JaI]; exact decide_eq_true (by omega)
 cases hv with
 | nils => simp at h1; omega
 | sl l ex => simp only [Jd, hT, h2, hz, hb, adr]
 | ms id off cap cs e' fl fz l hbx hl hlt hid hcap => simp only [Jd, hT, h2, hz, hb, adr]
theorem Vw.ld {e : TypeId} (hz : JU P e = some 1) (ha : QM P e = some false) {x : V} {l : List S} (hv : Vw st x l) {i : Nat} (hi : i < l.length) : Jz P st e (adr 1 x i) = some (.str l[i]) := by
 have hg : l.getD i ⟨0, 0⟩ = l[i] := by rw [List.getD_eq_getElem?_getD, List.getElem?_eq_getElem hi]; rfl
 cases hv with
 | nils => simp at hi
 | sl l ex =>
  simp only [adr, Jz, QQ, ha, hz, Nat.mul_one]
  simp [hi]
 | ms id off cap cs e' fl fz l hbx hl hlt hid hcap =>
  simp only [adr, Jz, QQ, ha, hz, Nat.mul_one, hbx, hl i hi, hg]
end Go.Vm
namespace Go.Vm
open Go
def JbR (ops : Array Oper) (o : Oper) : Option (Option Nat × Bool) :=
 match o.guard with
 | none => none
 | some (j, w) => some ((match ops[j]? with
  | some p => p.dst
  | none => none), w)
def Qs (fr : Fr) : Option (Option Nat × Bool) → Bool
 | none => true
 | some (none, _) => false
 | some (some d, w) => match Fr.at fr d with
  | .bool b => b == w
  | _ => false
theorem JiM (ops : Array Oper) (fr : Fr) (o : Oper) : Qs fr (JbR ops o) = Je ops fr o := by
 unfold JbR Je
 cases o.guard with
 | none => rfl
 | some p =>
  obtain ⟨j, w⟩ := p
  simp only
  cases ops[j]? with
  | none => rfl
  | some q => cases hq : q.dst with
   | none => simp [Qs, hq]
   | some d => simp only [Qs, hq]; cases Fr.at fr d <;> rfl
def Qf (P : Program) (ih : CallF) (rd : Option Nat) : List (Option (Option Nat × Bool)) → List Oper → Fr → St → OR
 | g :: gs, o :: r, fr, st =>
  match Qs fr g with
  | true => match Jk o.op with
   | false => match vop P ih fr st o.op with
    | .val v st' => Qf P ih rd gs r (Fr.to fr o.dst v) st'
    | .panic v st' => .panic v fr st'
    | .fail w => .fail (o.pos ++ ": " ++ w)
   | true => match rd, JcA P fr o.op with
    | none, some d => Qf P ih rd gs r (Fr.to { fr with ds := d :: fr.ds } o.dst .undef) st
    | _, _ => .fail (o.pos ++ ": defer")
  | false => Qf P ih rd gs r (Fr.to fr o.dst .undef) st
 | _, _, fr, st => .ok fr st
theorem JiN {P : Program} {ih : CallF} {rd : Option Nat} (ops : Array Oper) : ∀ (l : List Oper) (fr : Fr) (st : St), Qf P ih rd (l.map (JbR ops)) l fr st = Qe P ih rd ops l fr st
 | [], fr, st => rfl
 | o :: r, fr, st => by
  have ih' := JiN (P := P) (ih := ih) (rd := rd) ops r
  simp only [List.map_cons, Qf, Qe, JiM]
  cases Je ops fr o with
  | false => exact ih' _ _
  | true =>
   simp only
   cases Jk o.op with
   | false =>
    simp only
    cases vop P ih fr st o.op with
    | val v st' => exact ih' _ _
    | panic v st' => rfl
    | fail w => rfl
   | true =>
    simp only
    cases rd with
    | some q => rfl
    | none => cases JcA P fr o.op with
     | none => rfl
     | some d => exact ih' _ _
def OkG [Memo] (P : Program) (rd : Option Nat) (gs : List (Option (Option Nat × Bool))) (l : List Oper) (fr : Fr) (st : St) (K : Fr → St → Prop) : Prop :=
 match Qf P (ihCall (W P)) rd gs l fr st with
 | .ok fr' st' => K fr' st'
 | _ => False
theorem JlP {P : Program} {ih : CallF} {rd : Option Nat} (n : Nat) : ∀ (gs : List (Option (Option Nat × Bool))) (l : List Oper) (fr : Fr) (st : St), gs.length = l.length → Qf P ih rd gs l fr st =
    match Qf P ih rd (gs.take n) (l.take n) fr st with
    | .ok fr1 st1 => Qf P ih rd (gs.drop n) (l.drop n) fr1 st1
    | r => r := by
  induction n with
  | zero => intro gs l fr st _; simp [Qf]
  | succ n ihn =>
    intro gs l fr st h
    cases gs with
    | nil => cases l with
      | nil => simp [Qf]
      | cons o r => simp at h
    | cons g gs => cases l with
     | nil => simp at h
     | cons o r =>
      have ih' := fun fr st => ihn gs r fr st (by simpa using h)
      simp only [List.take_succ_cons, List.drop_succ_cons, Qf]
      cases Qs fr g with
      | false => exact ih' _ _
      | true =>
        simp only
        cases Jk o.op with
        | false =>
          simp only
          cases vop P ih fr st o.op with
          | val v st' => exact ih' _ _
          | panic v st' => rfl
          | fail w => rfl
        | true =>
          simp only
          cases rd with
          | some q => rfl
          | none => cases JcA P fr o.op with
            | none => rfl
            | some d => exact ih' _ _
theorem OkG.cut [Memo] {P : Program} {rd : Option Nat} {gs : List (Option (Option Nat × Bool))} {l : List Oper} {fr : Fr} {st : St} {Q : Fr → St → Prop} (n : Nat) (R : Fr → St → Prop) (hlen : Nat.beq gs.length l.length = true) (h : OkG P rd (gs.take n) (l.take n) fr st R)
  (k : ∀ fr' st', R fr' st' → OkG P rd (gs.drop n) (l.drop n) fr' st' Q) : OkG P rd gs l fr st Q := by
 unfold OkG at h ⊢
 rw [JlP n gs l fr st (Nat.eq_of_beq_eq_true hlen)]
 cases hx : Qf P (ihCall (W P)) rd (gs.take n) (l.take n) fr st with
 | ok fr1 st1 => rw [hx] at h; exact k fr1 st1 h
 | panic v fr1 st1 => rw [hx] at h; exact h.elim
 | fail w => rw [hx] at h; exact h.elim
theorem OkG.cutK [Memo] {P : Program} {rd : Option Nat} {gs : List (Option (Option Nat × Bool))} {l : List Oper} {fr : Fr} {st : St} {Q : Fr → St → Prop} (n : Nat) (M : Fr → St → Prop) (hlen : Nat.beq gs.length l.length = true)
  (h : ∀ K : Fr → St → Prop, (∀ fr' st', M fr' st' → K fr' st') → OkG P rd (gs.take n) (l.take n) fr st K)
  (k : ∀ fr' st', M fr' st' → OkG P rd (gs.drop n) (l.drop n) fr' st' Q) : OkG P rd gs l fr st Q := OkG.cut n M hlen (h M fun _ _ h => h) k
end Go.Vm
namespace Go.Vm
open Go
section
variable [Memo] {P : Program} {rd : Option Nat} {fr : Fr} {st : St} {Q : AE → Fr → St → Prop}
def DoK [Memo] (P : Program) (rd : Option Nat) : List Code → Fr → St → (AE → Fr → St → Prop) → Prop
 | [], fr, st, Q => Q .normal fr st
 | c :: k, fr, st, Q => DoR P rd c fr st (andThen (fun fr st => DoK P rd k fr st Q) Q)
theorem Ks_ {a b : Code} {k : List Code} (h : DoK P rd (a :: b :: k) fr st Q) : DoK P rd (.seq a b :: k) fr st Q := by
 refine DoR.seq (DoR.mono h fun e fr' st' h => ?_)
 cases e with
 | normal => exact h
 | exit id => exact h
 | ret => exact h
 | panic v => exact h
theorem Kk_ {k : List Code} (h : DoK P rd k fr st Q) : DoK P rd (.skip :: k) fr st Q := DoR.skip h
theorem Kq_ {k : List Code} (h : Q .ret fr st) : DoK P rd (.ret :: k) fr st Q := DoR.ret h
theorem Kx_ {id : Nat} {k : List Code} (h : Q (.exit id) fr st) : DoK P rd (.exit id :: k) fr st Q := DoR.exit h
theorem Kt_ {x : Operand} {a b : Code} {k : List Code} (hx : ev fr x = some (.bool true)) (h : DoK P rd (a :: k) fr st Q) : DoK P rd (.cond x a b :: k) fr st Q := DoR.condT hx h
theorem Kf_ {x : Operand} {a b : Code} {k : List Code} (hx : ev fr x = some (.bool false)) (h : DoK P rd (b :: k) fr st Q) : DoK P rd (.cond x a b :: k) fr st Q := DoR.condF hx h
theorem DoK.reg {id : Nat} {ops : Array Oper} {k : List Code} (h : ∀ K : Fr → St → Prop, (∀ fr' st', DoK P rd k fr' st' Q → K fr' st') → OkR P rd ops ops.toList fr st K) : DoK P rd (.region id ops false :: k) fr st Q :=
 DoR.region (h _ fun _ _ h => h)
theorem Kr_ {id : Nat} {ops : Array Oper} {k : List Code} {gs : List (Option (Option Nat × Bool))} (hg : ops.toList.map (JbR ops) = gs) (h : ∀ K : Fr → St → Prop, (∀ fr' st', DoK P rd k fr' st' Q → K fr' st') → OkG P rd gs ops.toList fr st K) : DoK P rd (.region id ops false :: k) fr st Q := by
 refine DoK.reg fun K hK => ?_
 have := h K hK
 unfold OkG at this
 rw [← hg, JiN] at this
 exact this
theorem Ka_ {id : Nat} {ops : Array Oper} {k : List Code} {gs : List (Option (Option Nat × Bool))} (h : ∀ K : Fr → St → Prop, (∀ fr' st', DoK P rd k fr' st' Q → K fr' st') → OkG P rd gs ops.toList fr st K) (hg : ops.toList.map (JbR ops) = gs := by kernel_rfl) : DoK P rd (.region id ops false :: k) fr st Q := Kr_ hg h
theorem DoK.draw {id : Nat} {ops : Array Oper} {k : List Code} {b l : List Nat} (hb : Qy ops = b) (hl : JcN P ops b = l) (hp : JaX P ops b l = true)
  (h : ∀ K : Fr → St → Prop, (∀ fr' st', DoK P rd k fr' st' Q → K fr' st') →
   match Qq P (ihCall (W P)) ops b st.ctr l { fr := fr, st := { st with ctr := st.ctr + ops.size }, snaps := [(ops.size, { st with ctr := st.ctr + ops.size })] } with
   | some d => K d.fr d.st
   | none => False) : DoK P rd (.region id ops true :: k) fr st Q :=
 DoR.draw hb hl hp (h _ fun _ _ h => h)
def JL (P : Program) (ih : CallF) (ops : Array Oper) (b : List Nat) (c0 : Nat) : List Oper → Nat → Drw → Option Drw
 | [], _, d => some d
 | o :: r, i, d => match Je ops d.fr o with
  | false => JL P ih ops b c0 r (i + 1) { fr := Fr.to d.fr o.dst .undef, st := d.st, snaps := (match Jq P o.op with | .e => (i, d.st) :: d.snaps | _ => d.snaps) }
  | true =>
   match Jq P o.op with
   | .p => match Jx P d.fr d.st o.op with
    | some v => JL P ih ops b c0 r (i + 1) { d with fr := Fr.to d.fr o.dst v }
    | none => none
   | .r => match d.snaps with
    | (_, s0) :: _ => match Jx P d.fr s0 o.op with
     | some v => match JQ P d.fr o.op v (b.getD i 0) d.snaps with
      | true => JL P ih ops b c0 r (i + 1) { d with fr := Fr.to d.fr o.dst v }
      | false => none
     | none => none
    | [] => none
   | .a => match JK P d.fr o.op with
    | some (cs, e, n) => match cs.all JZ with
     | true => JL P ih ops b c0 r (i + 1) { fr := Fr.to d.fr o.dst (Ql (c0 + i) n), st := { d.st with box := d.st.box.put (c0 + i) (.cells cs e true (some 0)) }, snaps := d.snaps }
     | false => none
    | none => none
   | .e => match J7 P ih d.fr d.st o.op with
    | .val v st' => JL P ih ops b c0 r (i + 1) { fr := Fr.to d.fr o.dst v, st := st', snaps := (i, st') :: d.snaps }
    | _ => none
omit [Memo] in
theorem Jhh {P : Program} {ih : CallF} {ops : Array Oper} {b : List Nat} {c0 : Nat} : ∀ (l : List Oper) (i : Nat) (d : Drw), ops.toList.drop i = l → Qq P ih ops b c0 (List.range' i l.length) d = JL P ih ops b c0 l i d
 | [], i, d, _ => rfl
 | o :: r, i, d, h => by
  have ho : ops[i]? = some o := by
   have := congrArg (fun l => l[0]?) h
   simpa [List.getElem?_drop] using this
  have hr : ops.toList.drop (i + 1) = r := by
   have := congrArg (fun l => l.drop 1) h
   simpa [List.drop_drop] using this
  have ih' : ∀ d, Qq P ih ops b c0 (List.range' (i + 1) r.length) d = JL P ih ops b c0 r (i + 1) d := fun d => Jhh r (i + 1) d hr
  simp only [List.length_cons, List.range'_succ, Qq, QJ, ho, JL]
  cases Je ops d.fr o with
  | false => simp only [ih']; cases Jq P o.op <;> rfl
  | true =>
   simp only
   cases Jq P o.op with
   | p =>
    simp only
    cases Jx P d.fr d.st o.op with
    | none => rfl
    | some v => simp only [ih']
   | r =>
    simp only
    cases hs : d.snaps with
    | nil => rfl
    | cons s sn =>
     simp only
     cases Jx P d.fr s.2 o.op with
     | none => rfl
     | some v =>
      simp only
      cases JQ P d.fr o.op v (b.getD i 0) (s :: sn) with
      | true => simp only [ih']
      | false => rfl
   | a =>
    simp only
    cases JK P d.fr o.op with
    | none => rfl
    | some v =>
     simp only
     cases v.1.all JZ with
     | true => simp only [ih']
     | false => rfl
   | e =>
    simp only
    cases J7 P ih d.fr d.st o.op with
    | val v st' => simp only [ih']
    | panic v st' => rfl
    | fail w => rfl
def OkD [Memo] (P : Program) (ops : Array Oper) (b : List Nat) (c0 : Nat) (l : List Oper) (i : Nat) (fr : Fr) (st : St) (snaps : List (Nat × St)) (K : Fr → St → Prop) : Prop :=
 match JL P (ihCall (W P)) ops b c0 l i { fr := fr, st := st, snaps := snaps } with
 | some d => K d.fr d.st
 | none => False
theorem Kg_ {id : Nat} {ops : Array Oper} {k : List Code} {b : List Nat} (hb : Qy ops = b) (hl : JcN P ops b = List.range' 0 ops.toList.length) (hp : JaX P ops b (List.range' 0 ops.toList.length) = true)
  (h : ∀ K : Fr → St → Prop, (∀ fr' st', DoK P rd k fr' st' Q → K fr' st') →
   OkD P ops b st.ctr ops.toList 0 fr { ctr := st.ctr + ops.size, box := st.box } [(ops.size, { ctr := st.ctr + ops.size, box := st.box })] K) : DoK P rd (.region id ops true :: k) fr st Q := by
 refine DoK.draw hb hl hp fun K hK => ?_
 rw [Jhh ops.toList 0 _ rfl]
 exact h K hK
theorem Ki_ {id : Nat} {ops : Array Oper} {k : List Code} {b : List Nat} (h : ∀ K : Fr → St → Prop, (∀ fr' st', DoK P rd k fr' st' Q → K fr' st') →
   OkD P ops b st.ctr ops.toList 0 fr { ctr := st.ctr + ops.size, box := st.box } [(ops.size, { ctr := st.ctr + ops.size, box := st.box })] K) (hb : Qy ops = b := by kernel_rfl) (hl : JcN P ops b = List.range' 0 ops.toList.length := by kernel_rfl) (hp : JaX P ops b (List.range' 0 ops.toList.length) = true := by kernel_rfl) : DoK P rd (.region id ops true :: k) fr st Q := Kg_ hb hl hp h
omit [Memo] in
theorem Jhi {P : Program} {ih : CallF} {ops : Array Oper} {b : List Nat} {c0 : Nat} : ∀ (l m : List Nat) (d : Drw), Qq P ih ops b c0 (l ++ m) d = match Qq P ih ops b c0 l d with
  | some d' => Qq P ih ops b c0 m d'
  | none => none
 | [], m, d => rfl
 | i :: l, m, d => by
  simp only [List.cons_append, Qq]
  cases QJ P ih ops b c0 i d with
  | none => rfl
  | some d' => exact Jhi l m d'
omit [Memo] in
theorem JiO {P : Program} {ih : CallF} {ops : Array Oper} {b : List Nat} {c0 : Nat} (a n : Nat) (h : a + n ≤ ops.toList.length) (d : Drw) : Qq P ih ops b c0 (List.range' a n) d = JL P ih ops b c0 ((ops.toList.drop a).take n) a d := by
 have key : ∀ (n i : Nat) (l : List Oper) (d : Drw), (∀ j (hj : j < l.length), ops[i + j]? = some l[j]) → l.length = n → Qq P ih ops b c0 (List.range' i n) d = JL P ih ops b c0 l i d := by
  intro n
  induction n with
  | zero =>
   intro i l d _ hl
   obtain rfl := List.length_eq_zero_iff.1 hl
   rfl
  | succ n ihn =>
   intro i l d hg hl
   match l, hl with
   | o :: r, hl =>
    have ho : ops[i]? = some o := hg 0 (by simp)
    have ih' : ∀ d, Qq P ih ops b c0 (List.range' (i + 1) n) d = JL P ih ops b c0 r (i + 1) d := fun d => ihn (i + 1) r d (fun j hj => by
     have := hg (j + 1) (by simpa using hj)
     rw [show i + 1 + j = i + (j + 1) from by omega, this]
     rfl) (by simpa using hl)
    simp only [List.range'_succ, Qq, QJ, ho, JL]
    cases Je ops d.fr o with
    | false => simp only [ih']; cases Jq P o.op <;> rfl
    | true =>
     simp only
     cases Jq P o.op with
     | p =>
      simp only
      cases Jx P d.fr d.st o.op with
      | none => rfl
      | some v => simp only [ih']
     | r =>
      simp only
      cases hs : d.snaps with
      | nil => rfl
      | cons s sn =>
       simp only
       cases Jx P d.fr s.2 o.op with
       | none => rfl
       | some v =>
        simp only
        cases JQ P d.fr o.op v (b.getD i 0) (s :: sn) with
        | true => simp only [ih']
        | false => rfl
     | a =>
      simp only
      cases JK P d.fr o.op with
      | none => rfl
      | some v =>
       simp only
       cases v.1.all JZ with
       | true => simp only [ih']
       | false => rfl
     | e =>
      simp only
      cases J7 P ih d.fr d.st o.op with
      | val v st' => simp only [ih']
      | panic v st' => rfl
      | fail w => rfl
 refine key n a _ d (fun j hj => ?_) (by simp at h ⊢; omega)
 simp at hj
 simp
def JeF (rs : List (Nat × Nat)) : List Nat := rs.flatMap fun r => List.range' r.1 r.2
def J3 [Memo] (P : Program) (ops : Array Oper) (b : List Nat) (c0 : Nat) : List (Nat × Nat) → Drw → (Fr → St → Prop) → Prop
 | [], d, K => K d.fr d.st
 | r :: rs, d, K => match JL P (ihCall (W P)) ops b c0 ((ops.toList.drop r.1).take r.2) r.1 d with
  | some d' => J3 P ops b c0 rs d' K
  | none => False
theorem Jhj {P : Program} {ops : Array Oper} {b : List Nat} {c0 : Nat} {K : Fr → St → Prop} : ∀ (rs : List (Nat × Nat)) (d : Drw), (rs.all fun r => Nat.ble (r.1 + r.2) ops.toList.length) = true → J3 P ops b c0 rs d K →
  match Qq P (ihCall (W P)) ops b c0 (JeF rs) d with
  | some d => K d.fr d.st
  | none => False
 | [], d, _, h => h
 | r :: rs, d, hr, h => by
  simp only [List.all_cons, Bool.and_eq_true] at hr
  simp only [J3] at h
  show match Qq P (ihCall (W P)) ops b c0 (List.range' r.1 r.2 ++ JeF rs) d with
   | some d => K d.fr d.st
   | none => False
  rw [Jhi, JiO _ _ (Nat.le_of_ble_eq_true hr.1)]
  cases hx : JL P (ihCall (W P)) ops b c0 ((ops.toList.drop r.1).take r.2) r.1 d with
  | none => rw [hx] at h; exact h.elim
  | some d' => rw [hx] at h; exact Jhj rs d' hr.2 h
theorem Ke_ {id : Nat} {ops : Array Oper} {k : List Code} {b : List Nat} {rs : List (Nat × Nat)} (hb : Qy ops = b) (hl : JcN P ops b = JeF rs) (hp : JaX P ops b (JeF rs) = true) (hr : (rs.all fun r => Nat.ble (r.1 + r.2) ops.toList.length) = true)
  (h : ∀ K : Fr → St → Prop, (∀ fr' st', DoK P rd k fr' st' Q → K fr' st') →
   J3 P ops b st.ctr rs { fr := fr, st := { ctr := st.ctr + ops.size, box := st.box }, snaps := [(ops.size, { ctr := st.ctr + ops.size, box := st.box })] } K) : DoK P rd (.region id ops true :: k) fr st Q := by
 refine DoK.draw hb hl hp fun K hK => ?_
 exact Jhj rs _ hr (h K hK)
theorem Kj_ {id : Nat} {ops : Array Oper} {k : List Code} {b : List Nat} {rs : List (Nat × Nat)} (h : ∀ K : Fr → St → Prop, (∀ fr' st', DoK P rd k fr' st' Q → K fr' st') →
   J3 P ops b st.ctr rs { fr := fr, st := { ctr := st.ctr + ops.size, box := st.box }, snaps := [(ops.size, { ctr := st.ctr + ops.size, box := st.box })] } K) (hb : Qy ops = b := by kernel_rfl) (hl : JcN P ops b = JeF rs := by kernel_rfl) (hp : JaX P ops b (JeF rs) = true := by kernel_rfl) (hr : (rs.all fun r => Nat.ble (r.1 + r.2) ops.toList.length) = true := by kernel_rfl) : DoK P rd (.region id ops true :: k) fr st Q := Ke_ hb hl hp hr h
theorem Kn_ {c : List Code} (M : Fr → Prop) (h : M fr) (k : ∀ fr, M fr → DoK P rd c fr st Q) : DoK P rd c fr st Q := k fr h
def JoC (id : Nat) : AE → Prop
 | .normal => False
 | .exit j => j ≠ id
 | _ => True
theorem Kb_ {id : Nat} {b : Code} {k : List Code}
  (h : ∀ K : AE → Fr → St → Prop, (∀ fr' st', DoK P rd k fr' st' Q → K .normal fr' st') → (∀ fr' st', DoK P rd k fr' st' Q → K (.exit id) fr' st') → (∀ e fr' st', JoC id e → Q e fr' st' → K e fr' st') → DoK P rd [b] fr st K) :
  DoK P rd (.block id b :: k) fr st Q := by
 refine DoR.block (DoR.mono (h (fun e fr st => inBlock id (andThen (fun fr st => DoK P rd k fr st Q) Q) e fr st) ?_ ?_ ?_) fun e fr' st' h => ?_)
 ·intro fr' st' h; exact h
 ·intro fr' st' h; simp only [inBlock, if_true]; exact h
 ·intro e fr' st' ha h
  cases e with
  | normal => exact ha.elim
  | exit j => simp only [inBlock]; rw [if_neg ha]; exact h
  | ret => exact h
  | panic v => exact h
 ·cases e with
  | normal => exact h
  | exit id => exact h
  | ret => exact h
  | panic v => exact h
theorem Kl_ {id : Nat} {b : Code} {k : List Code} (N : Nat) (I : Nat → Fr → St → Prop) (i0 : Nat) (M : Fr → St → Prop) (h0 : I i0 fr st) (hb : ∀ i fr st, I i fr st → i ≤ N)
  (step : ∀ i fr st, I i fr st → ∀ K : AE → Fr → St → Prop, (∀ j fr' st', i < j → I j fr' st' → K .normal fr' st') → (∀ fr' st', M fr' st' → K (.exit id) fr' st') → (∀ e fr' st', JoC id e → Q e fr' st' → K e fr' st') → DoK P rd [b] fr st K)
  (tail : ∀ fr' st', M fr' st' → DoK P rd k fr' st' Q) : DoK P rd (.block id (.loop b) :: k) fr st Q := by
 refine DoR.block (DoR.up N I i0 h0 hb fun i fr1 st1 hi => ?_)
 refine DoR.mono (step i fr1 st1 hi (fun e fr st => andThen (fun fr' st' => ∃ j, i < j ∧ I j fr' st') (inBlock id (andThen (fun fr st => DoK P rd k fr st Q) Q)) e fr st) ?_ ?_ ?_) fun e fr' st' h => ?_
 ·intro j fr' st' hj h; exact ⟨j, hj, h⟩
 ·intro fr' st' h; simp only [andThen, inBlock, if_true]; exact tail _ _ h
 ·intro e fr' st' ha h
  cases e with
  | normal => exact ha.elim
  | exit j => simp only [andThen, inBlock]; rw [if_neg ha]; exact h
  | ret => exact h
  | panic v => exact h
 ·cases e with
  | normal => exact h
  | exit id => exact h
  | ret => exact h
  | panic v => exact h
def Jo1 : AE → Prop
 | .normal => False
 | _ => True
theorem Km_ {a : Code} {k : List Code} (M : Fr → St → Prop)
  (h : ∀ K : AE → Fr → St → Prop, (∀ fr' st', M fr' st' → K .normal fr' st') → (∀ e fr' st', Jo1 e → Q e fr' st' → K e fr' st') → DoK P rd [a] fr st K)
  (tail : ∀ fr' st', M fr' st' → DoK P rd k fr' st' Q) : DoK P rd (a :: k) fr st Q := by
 refine DoR.mono (h (fun e fr st => andThen (fun fr st => DoK P rd k fr st Q) Q e fr st) (fun _ _ h => tail _ _ h) ?_) fun e fr' st' h => ?_
 ·intro e fr' st' ha h
  cases e with
  | normal => exact ha.elim
  | exit j => exact h
  | ret => exact h
  | panic v => exact h
 ·cases e with
  | normal => exact h
  | exit id => exact h
  | ret => exact h
  | panic v => exact h
theorem QD {gl : Gl} {f : Nat} {args : List V} {fn : Func} {c : Code} {R : V → St → Prop} (hn : (Memo.look f).run args st = none) (hf : P.funcs[f]? = some fn) (hb : fn.body = some c)
  (hs : (Nat.ble args.length fn.ntmps && JO fn.ntmps c) = true)
  (h : ∀ R' : V → St → Prop, (∀ v st', R v st' → R' v st') → ∀ K : AE → Fr → St → Prop, (∀ fr st, JM P fn R' .ret fr st → K .ret fr st) → (∀ fr st, JM P fn R' .normal fr st → K .normal fr st) → DoK P none [c] (JH gl args) st K) : Says P gl f args st R := by
 refine Jo0 hn hf hb hs (DoR.mono (h R (fun _ _ h => h) (JM P fn R) (fun _ _ h => h) (fun _ _ h => h)) fun e fr' st' h => ?_)
 cases e with
 | normal => exact h
 | exit id => exact h
 | ret => exact h
 | panic v => exact h
end
theorem Jy {P : Program} {st : St} {c : Nat} {T : TypeId} {a : V} : Jz P { ctr := st.ctr + c, box := st.box } T a = Jz P st T a := by cases a <;> rfl
theorem Js {st : St} {x : Bx} {i : Nat} : (st.new x).box.get i = if i = st.ctr then some x else st.box.get i := Tr.get_put ..
theorem Jm {st : St} {x : Bx} {j i : Nat} : (st.put j x).box.get i = if i = j then some x else st.box.get i := Tr.get_put ..
theorem JY {st : St} {x : Bx} : (st.new x).ctr = st.ctr + 1 := rfl
theorem JB {st : St} {x : Bx} {j : Nat} : (st.put j x).ctr = st.ctr := rfl
theorem Keep.new' {a b : St} (h : Keep a b) (x : Bx) : Keep a (b.new x) := h.new x
theorem Keep.put' {a b : St} (h : Keep a b) {id : Nat} (hid : a.ctr ≤ id) (x : Bx) : Keep a (b.put id x) := h.put hid x
end Go.Vm
namespace Go.Vm
open Go Go.Proofs Go.Pa
def Jed {α : Type} (f : α → List V) (l : List α) (i : Nat) : List V := (l.drop i).flatMap f
theorem JbS {α : Type} {f : α → List V} {l : List α} {i : Nat} (h : i < l.length) : Jed f l i = f l[i] ++ Jed f l (i + 1) := by
 unfold Jed
 rw [List.drop_eq_getElem_cons h, List.flatMap_cons]
theorem Row.ix {α : Type} {f : α → List V} {z : Nat} {x : V} {l : List α} (h : Row f x l) (hz : ∀ a ∈ l, (f a).length = z) {P : Program} {T e : TypeId} (hT : P.underlying T = some (.slice e)) (he : JU P e = some z) {k : IntKind} {a : Int} (h0 : 0 ≤ a) (h1 : a < (l.length : Int)) :
  Jd P T x (.int k a) = some (.cp (Jed f l a.toNat)) := by
 obtain ⟨n, rfl⟩ := Int.eq_ofNat_of_zero_le h0
 have hn : n < l.length := by omega
 have hb : Nat.blt n l.length = true := by rw [JaI]; exact decide_eq_true hn
 cases h with
 | nils => simp at hn
 | sl l ex => simp only [Jd, hT, Qn, he, hb]; rw [JeS l hz n hn, Int.toNat_natCast, JbS hn]; rfl
theorem Jb0 {cs : List V} : Jo Tryz.prog 47 (.cp cs) 0 = some (.cp cs) := by kernel_rfl
theorem Jb1 {cs : List V} : Jo Tryz.prog 47 (.cp cs) 1 = some (.cp (cs.drop 1)) := by kernel_rfl
theorem Q6 {cs : List V} : Jo Tryz.prog 47 (.cp cs) 2 = some (.cp (cs.drop 2)) := by kernel_rfl
theorem Jbh {cs : List V} : Jo Tryz.prog 47 (.cp cs) 3 = some (.cp (cs.drop 3)) := by kernel_rfl
theorem JdL {cs : List V} : Jo Tryz.prog 47 (.cp cs) 4 = some (.cp (cs.drop 4)) := by kernel_rfl
theorem JdM {cs : List V} : Jo Tryz.prog 47 (.cp cs) 5 = some (.cp (cs.drop 5)) := by kernel_rfl
section
variable {st : St} {l : List Fw} {i : Nat}
theorem flp (h : i < l.length) : Jz Tryz.prog st 47 (.cp (Jed Fw.cells l i)) = some (.agg l[i].cells) := by
 rw [JbS h]; exact Jkr _ _ _
end
theorem ilp {st : St} {l : List Int} {i : Nat} (h : i < l.length) : Jz Tryz.prog st 3 (.cp (Jed iC l i)) = some (.int .i64 l[i]) := by
 rw [JbS h]; exact JoH _ _ _
theorem JkX (l : List Fw) (n : Int) : (occ l n).length = (Qw l).count n := by
 have h : ∀ i, i ≤ l.length → (JgG l n i).length = (Qw (l.take i)).count n := by
  intro i
  induction i with
  | zero => intro _; simp [JgG, Qw]
  | succ i ih =>
   intro hi
   rw [Jnu (by omega), List.length_append, ih (by omega)]
   unfold Qw
   rw [List.take_add_one, List.getElem?_eq_getElem (by omega), List.flatMap_append, List.count_append]
   congr 1
   simp only [JgF, List.length_map, Option.toList_some, List.flatMap_cons, List.flatMap_nil, List.append_nil]
   rw [List.count_eq_length_filter]
   congr 1
 have := h l.length (Nat.le_refl _)
 rw [List.take_length] at this
 exact this
theorem JhS {l : List Fw} {n : Int} {j : Nat} : j ∈ occ l n ↔ ∃ h : j < l.length, n ∈ l[j].kids := by
 unfold occ JgG
 rw [List.mem_flatMap]
 constructor
 ·rintro ⟨m, hm, hj⟩
  have hm := List.mem_range.1 hm
  unfold JgF at hj
  rw [List.mem_map] at hj
  obtain ⟨k, hk, rfl⟩ := hj
  rw [List.mem_filter] at hk
  have := of_decide_eq_true hk.2
  subst this
  refine ⟨hm, ?_⟩
  have := hk.1
  simpa [Jh9, hm] using this
 ·rintro ⟨h, hn⟩
  refine ⟨j, List.mem_range.2 h, ?_⟩
  unfold JgF
  rw [List.mem_map]
  refine ⟨n, List.mem_filter.2 ⟨?_, by simp⟩, rfl⟩
  simpa [Jh9, h] using hn
structure MayF (l : List Fw) : Prop where
 pos : 0 < l.length
 head : JbA l = true
 one : ∀ j (h : j < l.length), Jb4 l[j] = true
 kid : ∀ j (h : j < l.length) k, k ∈ l[j].kids → (j : Int) < k ∧ k < (l.length : Int)
 once : ∀ m, 1 ≤ m → m < l.length → (Qw l).count (m : Int) = 1
theorem JmQ {l : List Fw} (h : JbA l = true) : 0 < l.length := by
 cases l with
 | nil => simp [JbA] at h
 | cons f r => simp
theorem Jhk {l : List Fw} : Jc8 l = true ↔ ∀ j (h : j < l.length), Jeq l.length j l[j] = true := by
 constructor
 ·intro hf j hj
  unfold Jc8 at hf
  rw [List.all_eq_true] at hf
  have := hf j (List.mem_range.2 hj)
  rwa [List.getElem?_eq_getElem hj] at this
 ·intro h
  exact JhA (i := l.length) (fun j hj _ => h j hj) (Nat.le_refl _)
theorem JiP {l : List Fw} (_hp : 0 < l.length) : (((stC l.length (Qw l)).drop 1).any (fun n => !decide (n = 1))) = false ↔ ∀ m, 1 ≤ m → m < l.length → (Qw l).count (m : Int) = 1 := by
 rw [List.any_eq_false]
 constructor
 ·intro h m h1 h2
  have hm : ((Qw l).count (m : Int) : Int) ∈ (stC l.length (Qw l)).drop 1 := by
   rw [List.mem_iff_getElem?]
   refine ⟨m - 1, ?_⟩
   rw [List.getElem?_drop, show 1 + (m - 1) = m from by omega, Jer _ h2]
  have := h _ hm
  simp at this
  omega
 ·intro h x hx
  rw [List.mem_iff_getElem?] at hx
  obtain ⟨i, hi⟩ := hx
  rw [List.getElem?_drop] at hi
  have hl : 1 + i < l.length := by
   rw [List.getElem?_eq_some_iff] at hi
   obtain ⟨h1, _⟩ := hi
   rwa [JcF] at h1
  rw [Jer _ hl] at hi
  have := h (1 + i) (by omega) hl
  rw [this] at hi
  simp at hi
  simp [← hi]
theorem JcW {l : List Fw} : Jfn l = true ↔ MayF l := by
 unfold Jfn
 rw [Bool.and_eq_true, Bool.and_eq_true, Bool.not_eq_true']
 constructor
 ·rintro ⟨⟨h1, h2⟩, h3⟩
  have hp := JmQ h1
  rw [Jhk] at h2
  rw [JiP hp] at h3
  refine ⟨hp, h1, fun j hj => ?_, fun j hj k hk => ?_, h3⟩
  ·have := h2 j hj
   rw [Jeq, Bool.and_eq_true] at this
   exact this.1
  ·have := h2 j hj
   rw [Jeq, Bool.and_eq_true, List.all_eq_true] at this
   have := this.2 k hk
   rw [JeT, Bool.and_eq_true] at this
   exact ⟨of_decide_eq_true this.1, of_decide_eq_true this.2⟩
 ·rintro ⟨hp, h1, h2, h3, h4⟩
  refine ⟨⟨h1, Jhk.2 fun j hj => ?_⟩, (JiP hp).2 h4⟩
  rw [Jeq, Bool.and_eq_true, List.all_eq_true]
  refine ⟨h2 j hj, fun k hk => ?_⟩
  rw [JeT, Bool.and_eq_true]
  exact ⟨decide_eq_true (h3 j hj k hk).1, decide_eq_true (h3 j hj k hk).2⟩
theorem JlQ {l : List Fw} {m : Int} (h : (Qw l).count m = 1) : ∃ j, ∃ hj : j < l.length, m ∈ l[j].kids ∧ Jia l m = (j : Int) := by
 rw [← JkX] at h
 match ho : occ l m, h with
 | [j], _ =>
  have hm : j ∈ occ l m := by rw [ho]; simp
  obtain ⟨hj, hk⟩ := JhS.1 hm
  exact ⟨j, hj, hk, by unfold Jia; rw [ho]; rfl⟩
end Go.Vm
namespace Go.Vm
open Go Go.Proofs Go.Pa
attribute [local simp] OkG Qf Qs OkD J3 JL Je Jk vop Jq Jx ev evs toV Jj Fr.dsTo Fr.glTo Fr.toNone Jg Jh Ji J7 Jc JF Jt V.undef JX Qq QJ JQ Qg J8 J9 Qa Qh Qi JT Qb Qj Qc JR Qk JE Jw Jy JD JG Ju JS JW Jb0 Jb1 Q6 Jbh JdL JdM
def Je7 (f : Fw) (s : S) : Option Int := match f.names.findIdx? (fun t => t.same s) with
 | some i => f.kids[i]?
 | none => none
def Jdy (l : List Fw) : Nat → List S → Option Nat
 | n, [] => some n
 | n, s :: p => match l[n]? with
  | some f => (match Je7 f s with
   | some k => Jdy l k.toNat p
   | none => none)
  | none => none
theorem JlR {f : Fw} {s : S} (h : JjM f.names) (hlen : f.names.length = f.kids.length) {i : Nat} (hi : i < f.names.length) (hs : f.names[i].same s = true) : Je7 f s = some (f.kids[i]'(by omega)) := by
 have h1 : f.names.findIdx? (fun t => t.same s) = some i := by
  rw [List.findIdx?_eq_some_iff_getElem]
  refine ⟨hi, hs, fun j hj => ?_⟩
  have := JgS (JlE (h j i hi hj) hs)
  simp [this]
 unfold Je7
 rw [h1]
 exact List.getElem?_eq_getElem (by omega)
theorem JhT {l : List S} {i : Nat} (h : i < l.length) : l.getD i ⟨0, 0⟩ = l[i] := by rw [List.getD_eq_getElem?_getD, List.getElem?_eq_getElem h]; rfl
theorem JcX {f : Fw} (h : Jb4 f = true) : f.names.length = f.kids.length := by
 unfold Jb4 at h
 cases hh : JdD f with
 | false => rw [hh] at h; cases h
 | true =>
  unfold JdD at hh
  rw [Bool.and_eq_true] at hh
  exact of_decide_eq_true hh.2
theorem JiQ {f : Fw} (h : Jb4 f = true) : JjM f.names := by
 unfold Jb4 at h
 cases hh : JdD f with
 | false => rw [hh] at h; cases h
 | true =>
  rw [hh] at h
  cases hd : JcE f with
  | false =>
   rw [hd] at h
   simp only [cond_true, cond_false, Jjr, Bool.and_eq_true] at h
   have h0 := of_decide_eq_true h.1.1
   intro i j hj hij
   omega
  | true =>
   rw [hd] at h
   simp only [cond_true, Bool.and_eq_true] at h
   exact JlF h.1
variable [Memo] [NY]
end Go.Vm
namespace Go.Vm
open Go
inductive Mine (lo : Nat) (e : TypeId) (st : St) : V → List V → Prop
 | nils : Mine lo e st .nils []
 | ms (id n : Nat) (cap : Option Nat) (cs : List V) (fl : Bool) (hlo : lo ≤ id) (hid : id < st.ctr) (hb : st.box.get id = some (.cells cs e fl (some 0))) (hn : n ≤ cs.length) (hcap : ∀ c, cap = some c → n ≤ c ∧ c ≤ cs.length) :
   Mine lo e st (.ms id 0 n 1 cap) (cs.take n)
def Ja4 (st : St) (x : V) (l : List V) : Prop := Jad st 1 x = some (l, l.length) ∧ l.all JZ = true
theorem Jn4 (l : List S) : (l.map V.str).all JZ = true := by simp [JZ]
theorem Vw.srcs {st : St} {x : V} {l : List S} (h : Vw st x l) : Ja4 st x (l.map .str) := ⟨by rw [h.src, List.length_map], Jn4 l⟩
theorem Mine.src {lo : Nat} {e : TypeId} {st : St} {x : V} {l : List V} (h : Mine lo e st x l) (ho : l.all JZ = true) : Ja4 st x l := by
 refine ⟨?_, ho⟩
 cases h with
 | nils => rfl
 | ms id n cap cs fl hlo hid hb hn hcap =>
  have h1 : Nat.ble (0 + n) cs.length = true := Nat.ble_eq_true_of_le (by omega)
  simp only [Jad, JV, hb, Nat.mul_one, h1, sub, List.drop_zero, List.length_take, Nat.min_eq_left hn]
theorem Mine.vw {lo : Nat} {e : TypeId} {st : St} {x : V} {l : List S} (h : Mine lo e st x (l.map .str)) : Vw st x l := by
 generalize hm : l.map V.str = m at h
 cases h with
 | nils =>
  have : l = [] := by simpa using hm
  subst this
  exact .nils
 | ms id n cap cs fl hlo hid hb hn hcap =>
  have hl : l.length = n := by have := congrArg List.length hm; simpa [Nat.min_eq_left hn] using this
  subst hl
  refine .ms id 0 cap cs e fl (some 0) l hb (fun i hi => ?_) (by omega) hid ?_
  ·have := congrArg (fun m => m[i]?) hm
   simp only [List.getElem?_map, List.getElem?_take, if_pos hi, List.getElem?_eq_getElem hi, Option.map_some] at this
   rw [Nat.zero_add, ← this, List.getD_eq_getElem?_getD, List.getElem?_eq_getElem hi]; rfl
  ·cases cap with
   | none => exact Jbg _
   | some c => exact Nat.ble_eq_true_of_le (hcap c rfl).1
theorem Mine.keep {lo : Nat} {e : TypeId} {st st' : St} {x : V} {l : List V} (h : Mine lo e st x l) (hk : Keep st st') : Mine lo e st' x l := by
 cases h with
 | nils => exact .nils
 | ms id n cap cs fl hlo hid hb hn hcap => exact .ms id n cap cs fl hlo (Nat.lt_of_lt_of_le hid hk.ctr) (by rw [hk.box id hid]; exact hb) hn hcap
theorem Mine.low {lo lo' : Nat} {e : TypeId} {st : St} {x : V} {l : List V} (h : Mine lo e st x l) (hl : lo' ≤ lo) : Mine lo' e st x l := by
 cases h with
 | nils => exact .nils
 | ms id n cap cs fl hlo hid hb hn hcap => exact .ms id n cap cs fl (Nat.le_trans hl hlo) hid hb hn hcap
structure Low (lo : Nat) (st st' : St) : Prop where
 ctr : st.ctr ≤ st'.ctr
 box : ∀ id, id < lo → st'.box.get id = st.box.get id
theorem Low.keep {lo : Nat} {a b c : St} (h : Low lo b c) (k : Keep a b) (hl : a.ctr ≤ lo) : Keep a c := ⟨Nat.le_trans k.ctr h.ctr, fun id hi => (h.box id (by omega)).trans (k.box id hi)⟩
theorem Low.refl (lo : Nat) (st : St) : Low lo st st := ⟨Nat.le_refl _, fun _ _ => rfl⟩
theorem Low.trans {lo : Nat} {a b c : St} (h : Low lo a b) (k : Low lo b c) : Low lo a c := ⟨Nat.le_trans h.ctr k.ctr, fun id hi => (k.box id hi).trans (h.box id hi)⟩
theorem JlS (cs news : List V) (n : Nat) (h : n ≤ cs.length) : (over cs n news).take (n + news.length) = cs.take n ++ news := by
 unfold over
 rw [List.append_assoc, List.take_append, List.take_of_length_le (by simp; omega), List.length_take, Nat.min_eq_left h]
 congr 1
 rw [Nat.add_sub_cancel_left, List.take_append_of_le_length (by simp), List.take_of_length_le (by simp)]
theorem JiR (cs news : List V) (n : Nat) (h : n + news.length ≤ cs.length) : (over cs n news).length = cs.length := by
 unfold over; simp; omega
variable {P : Program} {T e : TypeId}
def vid : V → Nat → Prop
 | .ms id _ _ _ _, i => i = id
 | _, _ => False
theorem Mine.stab {lo : Nat} {e : TypeId} {st st' : St} {x : V} {l : List V} (h : Mine lo e st x l) (hc : st.ctr ≤ st'.ctr) (hb : ∀ i, vid x i → st'.box.get i = st.box.get i) : Mine lo e st' x l := by
 cases h with
 | nils => exact .nils
 | ms id n cap cs fl hlo hid hb' hn hcap => exact .ms id n cap cs fl hlo (Nat.lt_of_lt_of_le hid hc) (by rw [hb id rfl]; exact hb') hn hcap
theorem Mine.vid_lt {lo : Nat} {e : TypeId} {st : St} {x : V} {l : List V} (h : Mine lo e st x l) {i : Nat} (hi : vid x i) : lo ≤ i ∧ i < st.ctr := by
 cases h with
 | nils => exact hi.elim
 | ms id n cap cs fl hlo hid hb' hn hcap => obtain rfl := (show i = id from hi); exact ⟨hlo, hid⟩
theorem Mine.sim {lo : Nat} {e : TypeId} {st : St} {x : V} {l : List V} (h : Mine lo e st x l) : JkB x = true := by cases h <;> rfl
theorem Mine.push2 {i : TypeInfo} {z : V} (hT : P.underlying T = some (.slice e)) (hi : P.info? e = some i) (hs : i.size = 1) (hzv : QZ P e = some z) (hzc : z.cells.length = 1) {st : St} {x s : V} {l m : List V} {lo : Nat} (h : Mine lo e st x l)
  (hm : Ja4 st s m) (hlo : lo ≤ st.ctr) (hb1 : (l.length + m.length) * i.bytes ≤ JA) (hb2 : l.length + m.length ≤ JA) :
  ∃ y st', QR P st T x s = some (y, st') ∧ Low lo st st' ∧ Mine lo e st' y (l ++ m) ∧ (∀ i, vid y i → vid x i ∨ st.ctr ≤ i) ∧ ∀ i, i < st.ctr → ¬ vid x i → st'.box.get i = st.box.get i := by
 obtain ⟨hsrc, hone⟩ := hm
 have h0 : Nat.beq 1 0 = false := rfl
 by_cases hme : m.length = 0
 ·obtain rfl := List.length_eq_zero_iff.1 hme
  refine ⟨x, st, ?_, .refl _ _, by rw [List.append_nil]; exact h, fun i hi => .inl hi, fun _ _ _ => rfl⟩
  cases h with
  | nils => simp only [QR, hT, hi, hs, hzv, hsrc, JV]; rfl
  | ms id n cap cs fl hlo hid hb hn hcap =>
   have h1 : Nat.ble (0 + n * 1) cs.length = true := Nat.ble_eq_true_of_le (by omega)
   simp only [QR, hT, hi, hs, hzv, hsrc, JV, hb, h1]; rfl
 ·have hmb : Nat.beq m.length 0 = false := by rw [Jig]; exact decide_eq_false hme
  have q1 : Nat.ble ((l.length + m.length) * i.bytes) JA = true := Nat.ble_eq_true_of_le hb1
  have q2 : Nat.ble (l.length + m.length) JA = true := Nat.ble_eq_true_of_le hb2
  have q3 : Nat.beq z.cells.length 1 = true := by rw [hzc]; rfl
  have knew : ∀ (cs : List V) (b : Tr Bx), (∀ id, id < lo → b.get id = st.box.get id) → Low lo st { ctr := st.ctr + 1, box := b.put st.ctr (.cells cs e false (some 0)) } := fun cs b hbx => ⟨Nat.le_succ _, fun id hid => by
   show (b.put st.ctr _).get id = _
   rw [Tr.get_put, if_neg (by omega)]; exact hbx id hid⟩
  have mnew : ∀ (b : Tr Bx), Mine lo e { ctr := st.ctr + 1, box := b.put st.ctr (.cells (l ++ m) e false (some 0)) } (.ms st.ctr 0 (l.length + m.length) 1 none) (l ++ m) := fun b => by
   have := Mine.ms (lo := lo) (e := e) (st := { ctr := st.ctr + 1, box := b.put st.ctr (.cells (l ++ m) e false (some 0)) }) st.ctr (l.length + m.length) none (l ++ m) false hlo (Nat.lt_succ_self _) (by show (b.put st.ctr _).get _ = _; rw [Tr.get_put, if_pos rfl]) (by simp) (fun c hc => by cases hc)
   rwa [List.take_of_length_le (by simp)] at this
  cases h with
  | nils =>
   refine ⟨.ms st.ctr 0 ([].length + m.length) 1 none, { ctr := st.ctr + 1, box := st.box.put st.ctr (.cells ([] ++ m) e false (some 0)) }, ?_, knew _ _ fun _ _ => rfl, mnew _, fun i hi => .inr (Nat.le_of_eq (show i = st.ctr from hi).symm), fun i hi _ => by show (st.box.put st.ctr _).get i = _; rw [Tr.get_put, if_neg (by omega)]⟩
   simp only [QR, hT, hi, hs, h0, hzv, hsrc, JV, hmb, q3, hone]
   rw [show Nat.ble ((0 + m.length) * i.bytes) JA = true from q1, show Nat.ble (0 + m.length) JA = true from q2]
   simp
  | ms id n cap cs fl hlo' hid hb hn hcap =>
   have h1 : Nat.ble (0 + n * 1) cs.length = true := Nat.ble_eq_true_of_le (by omega)
   have hlen : (cs.take n).length = n := by simp [Nat.min_eq_left hn]
   have hsub : sub cs 0 (n * 1) = cs.take n := by simp [sub]
   have e1 : Nat.beq 1 1 = true := rfl
   rw [hlen] at q1 q2 mnew
   have hgen : ∀ y st', (match Jay cs.length 0 n m.length 1 cap with
     | .here => (match Nat.ble (0 + (n + m.length) * 1) cs.length && JcZ (some 0) (0 + n * 1) with
      | true => some (V.ms id 0 (n + m.length) 1 cap, { st with box := st.box.put id (.cells (over cs (0 + n * 1) m) e fl (some 0)) })
      | false => none)
     | .fresh => some (V.ms st.ctr 0 (n + m.length) 1 none, { ctr := st.ctr + 1, box := st.box.put st.ctr (.cells (cs.take n ++ m) e false (some 0)) })
     | .gone => (match JcZ (some 0) (0 + n * 1) && Nat.beq e e with
      | true => some (V.ms st.ctr 0 (n + m.length) 1 none, { ctr := st.ctr + 1, box := (st.box.del id).put st.ctr (.cells (cs.take n ++ m) e false (Ji4 (some 0) 0)) })
      | false => none)) = some (y, st') → QR P st T (.ms id 0 n 1 cap) s = some (y, st') := fun y st' hh => by
    simp only [QR, hT, hi, hs, h0, hzv, hsrc, JV, hb, h1, hmb, q1, q2, q3, hone, hsub, Bool.and_self, e1]
    exact hh
   have hfz : JcZ (some 0) (0 + n * 1) = true := Nat.ble_eq_true_of_le (Nat.zero_le _)
   have hee : Nat.beq e e = true := Nat.beq_refl e
   have here : n + m.length ≤ cs.length → (∀ c, cap = some c → n + m.length ≤ c) → (match Nat.ble (0 + (n + m.length) * 1) cs.length && JcZ (some 0) (0 + n * 1) with
      | true => some (V.ms id 0 (n + m.length) 1 cap, ({ st with box := st.box.put id (.cells (over cs (0 + n * 1) m) e fl (some 0)) } : St))
      | false => none) = some (V.ms id 0 (n + m.length) 1 cap, { st with box := st.box.put id (.cells (over cs n m) e fl (some 0)) }) ∧
     Low lo st { st with box := st.box.put id (.cells (over cs n m) e fl (some 0)) } ∧ Mine lo e { st with box := st.box.put id (.cells (over cs n m) e fl (some 0)) } (.ms id 0 (n + m.length) 1 cap) (cs.take n ++ m) := fun hle hc => by
    have h2 : Nat.ble (0 + (n + m.length) * 1) cs.length = true := Nat.ble_eq_true_of_le (by omega)
    refine ⟨by rw [h2, hfz, show 0 + n * 1 = n from by omega]; rfl, ⟨Nat.le_refl _, fun i hi => by show (st.box.put id _).get i = _; rw [Tr.get_put, if_neg (by omega)]⟩, ?_⟩
    have := Mine.ms (lo := lo) (e := e) (st := { st with box := st.box.put id (.cells (over cs n m) e fl (some 0)) }) id (n + m.length) cap (over cs n m) fl hlo' hid (by show (st.box.put id _).get _ = _; rw [Tr.get_put, if_pos rfl]) (by rw [JiR _ _ _ hle]; exact hle) (fun c hc' => by rw [JiR _ _ _ hle]; exact ⟨hc c hc', (hcap c hc').2⟩)
    rwa [JlS _ _ _ hn] at this
   cases cap with
   | some c =>
    by_cases hc : n + m.length ≤ c
    ·obtain ⟨a1, a2, a3⟩ := here (by have := (hcap c rfl).2; omega) (fun c' hc' => by cases hc'; exact hc)
     refine ⟨_, _, hgen _ _ ?_, a2, a3, fun i hi => .inl hi, fun i hi hn => by show (st.box.put id _).get i = _; rw [Tr.get_put, if_neg (show ¬ i = id from hn)]⟩
     rw [show Jay cs.length 0 n m.length 1 (some c) = .here from by simp only [Jay, Nat.ble_eq_true_of_le hc]]
     exact a1
    ·refine ⟨_, _, hgen (.ms st.ctr 0 (n + m.length) 1 none) { ctr := st.ctr + 1, box := st.box.put st.ctr (.cells (cs.take n ++ m) e false (some 0)) } ?_, knew _ _ fun _ _ => rfl, mnew _, fun i hi => .inr (Nat.le_of_eq (show i = st.ctr from hi).symm), fun i hi _ => by show (st.box.put st.ctr _).get i = _; rw [Tr.get_put, if_neg (by omega)]⟩
     have hcb : Nat.ble (n + m.length) c = false := by
      cases hx : Nat.ble (n + m.length) c with
      | false => rfl
      | true => exact absurd (Nat.le_of_ble_eq_true hx) hc
     rw [show Jay cs.length 0 n m.length 1 (some c) = .fresh from by simp only [Jay, hcb]]
   | none =>
    by_cases hc : n + m.length ≤ cs.length
    ·obtain ⟨a1, a2, a3⟩ := here hc (fun c' hc' => by cases hc')
     refine ⟨_, _, hgen _ _ ?_, a2, a3, fun i hi => .inl hi, fun i hi hn => by show (st.box.put id _).get i = _; rw [Tr.get_put, if_neg (show ¬ i = id from hn)]⟩
     rw [show Jay cs.length 0 n m.length 1 none = .here from by simp only [Jay, Nat.ble_eq_true_of_le (show 0 + (n + m.length) * 1 ≤ cs.length by omega)]]
     exact a1
    ·refine ⟨_, _, hgen (.ms st.ctr 0 (n + m.length) 1 none) { ctr := st.ctr + 1, box := (st.box.del id).put st.ctr (.cells (cs.take n ++ m) e false (some 0)) } ?_, knew _ _ fun i hi => by rw [Tr.get_del, if_neg (by omega)], mnew _, fun i hi => .inr (Nat.le_of_eq (show i = st.ctr from hi).symm), fun i hi hn => by show ((st.box.del id).put st.ctr _).get i = _; rw [Tr.get_put, if_neg (by omega), Tr.get_del, if_neg (show ¬ i = id from hn)]⟩
     have hcb : Nat.ble (0 + (n + m.length) * 1) cs.length = false := by
      cases hx : Nat.ble (0 + (n + m.length) * 1) cs.length with
      | false => rfl
      | true => exact absurd (Nat.le_of_ble_eq_true hx) (by omega)
     rw [show Jay cs.length 0 n m.length 1 none = .gone from by simp only [Jay, hcb]]
     simp only [hfz, hee, Bool.and_self]
     rfl
theorem Mine.push {i : TypeInfo} {z : V} (hT : P.underlying T = some (.slice e)) (hi : P.info? e = some i) (hs : i.size = 1) (hzv : QZ P e = some z) (hzc : z.cells.length = 1) {st : St} {x s : V} {l m : List V} {lo : Nat} (h : Mine lo e st x l)
  (hm : Ja4 st s m) (hlo : lo ≤ st.ctr) (hb1 : (l.length + m.length) * i.bytes ≤ JA) (hb2 : l.length + m.length ≤ JA) :
  ∃ y st', QR P st T x s = some (y, st') ∧ Low lo st st' ∧ Mine lo e st' y (l ++ m) ∧ ∀ i, vid y i → vid x i ∨ st.ctr ≤ i := by
 obtain ⟨y, st', h1, h2, h3, h4, _⟩ := h.push2 hT hi hs hzv hzc hm hlo hb1 hb2
 exact ⟨y, st', h1, h2, h3, h4⟩
theorem Mine.len (hT : P.underlying T = some (.slice e)) {st : St} {x : V} {l : List V} {lo : Nat} (h : Mine lo e st x l) : QY P T x = some (.int .i64 (l.length : Int)) := by
 cases h with
 | nils => simp [QY, hT]
 | ms id n cap cs fl hlo hid hb hn hcap => simp [QY, hT, Nat.min_eq_left hn]
theorem Mine.mk {lo : Nat} {st : St} {id n : Nat} {cs : List V} {fl : Bool} (hlo : lo ≤ id) (hid : id < st.ctr) (hb : st.box.get id = some (.cells cs e fl (some 0))) (hn : cs.length = n) : Mine lo e st (.ms id 0 n 1 (some n)) cs := by
 have := Mine.ms (lo := lo) (e := e) (st := st) id n (some n) cs fl hlo hid hb (by omega) (fun c hc => by cases hc; omega)
 rwa [List.take_of_length_le (by omega)] at this
end Go.Vm
namespace Go.Vm
open Go Go.Proofs Go.Pa
attribute [local simp] OkG Qf Qs OkD J3 Qe JL Je Jk vop Jq Jx ev evs toV Jj Fr.dsTo Fr.glTo Fr.toNone Jg Jh Ji J7 QI Jc JF Jt V.undef JX JQ Qg J8 J9 Qa Qh Qi JT Qb Qj Qc JR Qk JE Jw Jy JD JG Ju JS JW Jb0 Jb1 Q6 Jbh JdL JdM fg0 fg1 fg2 fg3 fg4 fg5
set_option maxRecDepth 100000 in
theorem i9 : ∃ i, Tryz.prog.info? 9 = some i ∧ i.size = 1 ∧ i.bytes ≤ 64 := ⟨_, rfl, by decide, by decide⟩
theorem zs9 : QZ Tryz.prog 9 = some (.str ⟨0, 0⟩) := by kernel_rfl
theorem bs0 : JaQ Tryz.prog 23 0 [] = some ([], 9, 1) := by kernel_rfl
theorem bs1 (s : S) : JaQ Tryz.prog 23 1 [(0, .str s)] = some ([.str s], 9, 1) := by kernel_rfl
theorem Jo2 {st : St} {x s : V} {l m : List V} {lo : Nat} (h : Mine lo 9 st x l) (hm : Ja4 st s m) (hlo : lo ≤ st.ctr) (hb : l.length + m.length ≤ 1000000) :
  ∃ y st', QR Tryz.prog st 23 x s = some (y, st') ∧ Low lo st st' ∧ Mine lo 9 st' y (l ++ m) ∧ ∀ i, vid y i → vid x i ∨ st.ctr ≤ i := by
 obtain ⟨i, hi, h1, h2⟩ := i9
 refine h.push Tryz.underlying23 hi h1 zs9 rfl hm hlo ?_ (by simp [JA]; omega)
 refine Nat.le_trans (Nat.mul_le_mul hb h2) (by simp [JA])
theorem Jpy {st : St} {x : V} {l : List S} (hx : Vw st x l) : ∃ b, (∀ kk, Jf Tryz.prog kk .eql 23 x .nils = some (.bool b)) ∧ (b = true → l = []) := by
 cases hx with
 | nils => exact ⟨true, fun kk => by cases kk <;> kernel_rfl, fun _ => rfl⟩
 | sl l ex => exact ⟨false, fun kk => by simp only [Jf, Tryz.underlying23], fun h => by cases h⟩
 | ms => exact ⟨false, fun kk => by simp only [Jf, Tryz.underlying23], fun h => by cases h⟩
theorem Jp4 {lo : Nat} {st : St} {cs : List V} (hlo : lo ≤ st.ctr) : Mine lo 9 (st.new (.cells cs 9 true (some 0))) (.ms st.ctr 0 cs.length 1 (some cs.length)) cs :=
 Mine.mk hlo (Nat.lt_succ_self _) (by rw [Js, if_pos rfl]) rfl
def JdN (f : Fw) (n : Int) : S := match f.kids.findIdx? (fun k => decide (k = n)) with
 | some i => f.names.getD i ⟨0, 0⟩
 | none => ⟨0, 0⟩
def upOf (l : List Fw) (n : Nat) : Nat := (Jia l (n : Int)).toNat
def JdO (l : List Fw) : Nat → Nat → List S
 | 0, _ => []
 | d + 1, n => match n, l[upOf l n]? with
  | 0, _ => []
  | _, some f => JdO l d (upOf l n) ++ [JdN f (n : Int)]
  | _, none => []
def QW (l : List Fw) (n : Nat) : List S := JdO l (n + 1) n
def Jo3 (n : Int) (ks : List Int) (i : Nat) : Prop := ∀ j (h : j < ks.length), j < i → ks[j] ≠ n
theorem JlT {f : Fw} {n : Int} {i : Nat} (hi : i < f.kids.length) (h : Jo3 n f.kids i) (hn : f.kids[i] = n) (hl : i < f.names.length) : JdN f n = f.names[i] := by
 have h1 : f.kids.findIdx? (fun k => decide (k = n)) = some i := by
  rw [List.findIdx?_eq_some_iff_getElem]
  exact ⟨hi, by simp [hn], fun j hj => by have := h j (by omega) hj; simp [this]⟩
 unfold JdN
 rw [h1]
 exact JhT hl
theorem Ja9 {l : List Fw} (hm : MayF l) {m : Nat} (h1 : 1 ≤ m) (h2 : m < l.length) : upOf l m < m ∧ upOf l m < l.length ∧ Jia l (m : Int) = (upOf l m : Int) ∧ ∃ h : upOf l m < l.length, (m : Int) ∈ (l[upOf l m]'h).kids := by
 obtain ⟨j, hj, hk, ha⟩ := JlQ (hm.once m h1 h2)
 have := hm.kid j hj _ hk
 have e : upOf l m = j := by unfold upOf; rw [ha]; rfl
 rw [e]
 exact ⟨by omega, hj, ha, hj, hk⟩
theorem Jf8 {l : List Fw} {d n : Nat} {f : Fw} (h : l[upOf l (n + 1)]? = some f) : JdO l (d + 1) (n + 1) = JdO l d (upOf l (n + 1)) ++ [JdN f ((n + 1 : Nat) : Int)] := by
 simp only [JdO, h]
theorem JeG {l : List Fw} (hm : MayF l) : ∀ (d n : Nat), n < l.length → n < d → JdO l d n = JdO l (n + 1) n
 | 0, n, _, h => absurd h (Nat.not_lt_zero n)
 | d + 1, 0, _, _ => rfl
 | d + 1, n + 1, hn, h => by
  obtain ⟨u1, u2, _, _⟩ := Ja9 hm (Nat.succ_le_succ (Nat.zero_le n)) hn
  have hl := List.getElem?_eq_getElem u2
  rw [Jf8 hl, Jf8 hl, JeG hm d _ u2 (by omega), JeG hm (n + 1) _ u2 u1]
theorem JcY (l : List Fw) : QW l 0 = [] := rfl
theorem Jbi {l : List Fw} (hm : MayF l) {m : Nat} (h1 : 1 ≤ m) (h2 : m < l.length) : QW l m = QW l (upOf l m) ++ [JdN (l[upOf l m]'(Ja9 hm h1 h2).2.1) (m : Int)] := by
 obtain ⟨u1, u2, _, _⟩ := Ja9 hm h1 h2
 match m, h1 with
 | m + 1, _ =>
  have hl := List.getElem?_eq_getElem u2
  unfold QW
  rw [Jf8 hl, JeG hm (m + 1) _ u2 u1]
theorem Jf9 {l : List Fw} (hm : MayF l) : ∀ m, m < l.length → (QW l m).length ≤ m := by
 intro m
 induction m using Nat.strongRecOn with
 | _ m ih =>
  intro h
  by_cases h0 : m = 0
  ·subst h0; simp [JcY]
  ·obtain ⟨u1, u2, _, _⟩ := Ja9 hm (by omega) h
   rw [Jbi hm (by omega) h]
   have := ih _ u1 u2
   simp; omega
def placeE (may : Bool) (l : List Fw) (n : Int) : Nat := cond may (cond (decide (0 ≤ n) && decide (n < (l.length : Int))) 0 1) 4
def JdP (may : Bool) (l : List Fw) (n : Int) : List S := cond (may && (decide (0 ≤ n) && decide (n < (l.length : Int)))) (QW l n.toNat) []
def JmR (lo : Nat) (may : Bool) (l : List Fw) (n : Int) (st' : St) (v : V) : Prop := ∃ y, v = .tup [y, .int .i64 (placeE may l n : Int)] ∧ Mine lo 9 st' y ((JdP may l n).map .str)
variable [Memo] [NY]
set_option maxRecDepth 100000 in
theorem JmS (gl : Gl) (st : St) (x : V) (l : List S) (hx : Vw st x l) (hl : l.length ≤ 1000) :
  Says Tryz.prog gl 91 [x] st (fun v st' => Mine st.ctr 9 st' v (l.map .str) ∧ Keep st st') := by
 refine QD (NY.no _ rfl rfl rfl _ _) Tryz.func91 rfl (by kernel_rfl) fun R hR K gr gn => ?_
 generalize hfr : JH gl [x] = fr
 have hF : Fs gl [(0, x)] fr := by subst hfr; simp [Fs]
 simp only [Fs] at hF
 clear hfr
 obtain ⟨b, hb, hbl⟩ := Jpy hx
 refine Ks_ (Ka_ (gs := [none]) fun K1 gK => ?_)
 simp (disch := omega) []
 refine gK _ _ (Ks_ (Ks_ (Ka_ (gs := [none, none]) fun K1 gK => ?_)))
 simp (disch := omega) [hF, hb]
 refine gK _ _ ?_
 cases b with
 | true =>
  refine Kt_ (by simp (disch := omega) []) (Ks_ (Ka_ (gs := [none]) fun K1 gK => ?_))
  simp (disch := omega) []
  refine gK _ _ (Kq_ (gr _ _ ?_))
  simp [JM, Tryz.f91, hF]
  refine hR _ _ ?_
  rw [hbl rfl]
  exact ⟨.nils, .refl _⟩
 | false =>
  refine Kf_ (by simp (disch := omega) []) ?_
  have hm0 := Jp4 (lo := st.ctr) (st := st) (cs := []) (Nat.le_refl _)
  have hk0 := (Keep.refl st).new' (.cells [] 9 true (some 0))
  obtain ⟨y, s2, ha, hl2, hm2, _⟩ := Jo2 hm0 (hx.keep hk0).srcs (by simp [JY]) (by simp; omega)
  simp only [List.length_nil] at ha
  have hfold : ({ ctr := st.ctr + 1, box := st.box.put st.ctr (.cells [] 9 true (some 0)) } : St) = st.new (.cells [] 9 true (some 0)) := rfl
  refine Kk_ (Ks_ (Ka_ (gs := [none, none, none, none]) fun K1 gK => ?_))
  simp (disch := omega) [hF, bs0, ha, hfold, JK, J2, Ql, Tryz.underlying23]
  refine gK _ _ (Kq_ (gr _ _ ?_))
  simp [JM, Tryz.f91, hF]
  refine hR _ _ ?_
  exact ⟨hm2, hl2.keep hk0 (Nat.le_refl _)⟩
omit [Memo] [NY] in
theorem JkY : ∀ l : List Int, Jaj (l.flatMap iC) = 2 * l.length + 1
 | [] => rfl
 | a :: l => by rw [List.flatMap_cons, show iC a ++ l.flatMap iC = .int .i64 a :: l.flatMap iC from rfl, Jaj, JkY l]; simp only [vsz, List.length_cons]; omega
omit [Memo] [NY] in
theorem JiS {x : V} {l : List Int} (h : Row iC x l) : vsz x ≤ 2 * l.length + 2 := by
 cases h with
 | nils => exact Nat.le_of_ble_eq_true rfl
 | sl l ex => show Jaj (l.flatMap iC) + 1 ≤ _; rw [JkY]; omega
omit [Memo] [NY] in
theorem JmT {f : Fw} (hok : f.ok) (hs : f.small) : veq 1000000000 (.agg f.cells) (.agg f.cells) = true := QA _ (by
 have h1 := Jcn hok.names
 have h2 := JiS hok.kids
 have h3 := hs.names
 have h4 := hs.kids
 simp only [Fw.cells, vsz, Jaj]
 omega)
end Go.Vm
