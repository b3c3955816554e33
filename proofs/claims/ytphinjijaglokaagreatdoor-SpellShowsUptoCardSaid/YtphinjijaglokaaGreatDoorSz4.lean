/- Rules for walks: a frame as a row of slots, a call's JiF, operations as equations with side conditions (found by omega). -/
import Derived.Test.YtphinjijaglokaaGreatDoorSz0
import Derived.Test.YtphinjijaglokaaGreatDoorSz2
namespace Go.Vm
open Go
def Fs (gl : Gl) : List (Nat × V) → Fr → Prop
 | [], fr => fr.ds = [] ∧ fr.gl = gl
 | (k, v) :: r, fr => Fr.at fr k = v ∧ Fs gl r fr
def Sm (st st' : St) : Prop := st' = st
variable {P : Program} {rd : Option Nat} {fr : Fr} {st : St} {Q : AE → Fr → St → Prop}
def Says [Memo] (P : Program) (gl : Gl) (f : Nat) (args : List V) (st : St) (R : V → St → Prop) : Prop := ∃ v st', W P (.call gl f args) st = .call (.val v st') ∧ R v st'
theorem Says.use [Memo] {gl : Gl} {f : Nat} {args : List V} {R : V → St → Prop} (h : Says P gl f args st R) (hk : Qx P f = true := by kernel_rfl) : ∃ v st', JaM P (ihCall (W P)) gl f args st = .val v st' ∧ R v st' := by
 obtain ⟨v, st', h1, h2⟩ := h
 exact ⟨v, st', by rw [J6 hk, Q1 h1], h2⟩
theorem Says.mono [Memo] {gl : Gl} {f : Nat} {args : List V} {R R' : V → St → Prop} (h : Says P gl f args st R) (k : ∀ v st', R v st' → R' v st') : Says P gl f args st R' := by
 obtain ⟨v, st', h1, h2⟩ := h
 exact ⟨v, st', h1, k _ _ h2⟩
def JC (P : Program) (fn : Func) (R : V → St → Prop) (e : AE) (fr : Fr) (st : St) : Prop := (e = .ret ∨ e = .normal) ∧ fr.ds = [] ∧ ∃ vs, Jd (Jv P fr st) fn.results.toList = some vs ∧ R (JD vs) st
theorem JnL [Memo] {gl : Gl} {f : Nat} {args : List V} {fn : Func} {c : Code} {R : V → St → Prop} (hn : (Memo.look f).run args st = none) (hf : P.funcs[f]? = some fn) (hb : fn.body = some c)
  (hs : (Nat.ble args.length fn.ntmps && Qg fn.ntmps c) = true) (h : DoR P none c (Jx gl args) st (JC P fn R)) : Says P gl f args st R := Jcf hn hf hb hs h
theorem Jpg [Memo] {ops : Array Oper} (a : List Oper) : ∀ (b : List Oper) (fr : Fr) (st : St), Qr P (ihCall (W P)) rd ops (a ++ b) fr st =
  match Qr P (ihCall (W P)) rd ops a fr st with
  | .ok fr1 st1 => Qr P (ihCall (W P)) rd ops b fr1 st1
  | r => r := by
 induction a with
 | nil => intro b fr st; rfl
 | cons o r ih =>
  intro b fr st
  simp only [List.cons_append, Qr]
  cases Jm ops fr o with
  | false => exact ih ..
  | true =>
   cases Jq o.op with
   | false =>
    cases vop P (ihCall (W P)) fr st o.op with
    | val v st' => exact ih ..
    | panic v st' => rfl
    | fail w => rfl
   | true =>
    generalize JcN P fr o.op = d
    cases rd with
    | some r => rfl
    | none => cases d with
     | none => rfl
     | some d => exact ih ..
section
variable {kk : Bool} {T : TypeId} {q : IntKind} {a b : Nat}
theorem J7 : Jn P kk .eql T (.int q (a : Int)) (.int q (b : Int)) = some (.bool (decide (a = b))) := JdL rfl
theorem JX : Jn P kk .neq T (.int q (a : Int)) (.int q (b : Int)) = some (.bool (!decide (a = b))) := JjQ rfl
theorem J3 : Jn P kk .lss T (.int q (a : Int)) (.int q (b : Int)) = some (.bool (decide (a < b))) := JdM rfl
theorem J9 : Jn P kk .leq T (.int q (a : Int)) (.int q (b : Int)) = some (.bool (decide (a ≤ b))) := JjR rfl
theorem J8 : Jn P kk .gtr T (.int q (a : Int)) (.int q (b : Int)) = some (.bool (decide (b < a))) := Jgg rfl
theorem Qa : Jn P kk .geq T (.int q (a : Int)) (.int q (b : Int)) = some (.bool (decide (b ≤ a))) := JmA rfl
theorem JH : Jn P kk .eql T (.int q (a : Int)) (.int q (no_index (OfNat.ofNat b : Int))) = some (.bool (decide (a = OfNat.ofNat b))) := JdL rfl
theorem J4 : Jn P kk .neq T (.int q (a : Int)) (.int q (no_index (OfNat.ofNat b : Int))) = some (.bool (!decide (a = OfNat.ofNat b))) := JjQ rfl
theorem J5 : Jn P kk .lss T (.int q (a : Int)) (.int q (no_index (OfNat.ofNat b : Int))) = some (.bool (decide (a < OfNat.ofNat b))) := JdM rfl
theorem JZ : Jn P kk .leq T (.int q (a : Int)) (.int q (no_index (OfNat.ofNat b : Int))) = some (.bool (decide (a ≤ OfNat.ofNat b))) := JjR rfl
theorem JO : Jn P kk .gtr T (.int q (a : Int)) (.int q (no_index (OfNat.ofNat b : Int))) = some (.bool (decide (OfNat.ofNat b < a))) := Jgg rfl
theorem Qb : Jn P kk .geq T (.int q (a : Int)) (.int q (no_index (OfNat.ofNat b : Int))) = some (.bool (decide (OfNat.ofNat b ≤ a))) := JmA rfl
end
section
variable {kk : Bool} {T : TypeId} {k : IntKind} {a b : Int}
theorem Qs : Jn P kk .mul T (.int k a) (.int k b) = some (.int k (k.wrap (a * b))) := by simp [Jn]
theorem Jd5 (hb : b ≠ 0) : Jn P kk .quo T (.int k a) (.int k b) = some (.int k (k.wrap (a.tdiv b))) := by
 have h : Jn P kk .quo T (.int k a) (.int k b) = QQ P (fun l => binOp .quo T (l.getD 0 undef) (l.getD 1 undef)) [.int k a, .int k b] := by simp [Jn]
 rw [h]
 have h2 : Q2 P (binOp .quo T (.int k a) (.int k b)) = some (.int k (k.wrap (a.tdiv b))) := by
  simp only [binOp, Op.intDiv, ne_eq, not_true_eq_false, if_false, if_neg hb]
  rfl
 simp only [QQ, Jd, ofV]
 show (match Q2 P (binOp .quo T (.int k a) (.int k b)) with
  | some v => toV 6 v
  | none => none) = _
 rw [h2]
 rfl
theorem JfZ (hb : b ≠ 0) : Jn P kk .rem T (.int k a) (.int k b) = some (.int k (a.tmod b)) := by
 have h : Jn P kk .rem T (.int k a) (.int k b) = QQ P (fun l => binOp .rem T (l.getD 0 undef) (l.getD 1 undef)) [.int k a, .int k b] := by simp [Jn]
 rw [h]
 have h2 : Q2 P (binOp .rem T (.int k a) (.int k b)) = some (.int k (a.tmod b)) := by
  simp only [binOp, Op.intDiv, ne_eq, not_true_eq_false, if_false, if_neg hb]
  rfl
 simp only [QQ, Jd, ofV]
 show (match Q2 P (binOp .rem T (.int k a) (.int k b)) with
  | some v => toV 6 v
  | none => none) = _
 rw [h2]
 rfl
end
def adr (z : Nat) : V → Nat → V
 | .sl _ cs _, i => .cp (cs.drop (i * z))
 | .ms id off _ _ _, i => .ptr id (off + i * z)
 | _, _ => .undef
theorem JeI {k : IntKind} {a : Int} (h : 0 ≤ a) : JaQ (.int k a) = some a.toNat := by
 obtain ⟨n, rfl⟩ := Int.eq_ofNat_of_zero_le h
 rfl
theorem Vw.ix {T e : TypeId} (hT : P.underlying T = some (.slice e)) (hz : Qj P e = some 1) {x : V} {l : List S} (hv : Vw st x l) {k : IntKind} {a : Int} (h0 : 0 ≤ a) (h1 : a < (l.length : Int)) :
  Jo P T x (.int k a) = some (adr 1 x a.toNat) := by
 have h2 := JeI (k := k) h0
 have hb : Nat.blt a.toNat l.length = true := by rw [JbD]; exact decide_eq_true (by omega)
 cases hv with
 | nils => simp at h1; omega
 | sl l ex => simp only [Jo, hT, h2, hz, hb, adr]
 | ms id off cap cs e' fl fz l hbx hl hlt hid hcap => simp only [Jo, hT, h2, hz, hb, adr]
theorem Vw.ld {e : TypeId} (hz : Qj P e = some 1) (ha : Jag P e = some false) {x : V} {l : List S} (hv : Vw st x l) {i : Nat} (hi : i < l.length) : Qe P st e (adr 1 x i) = some (.str l[i]) := by
 have hg : l.getD i ⟨0, 0⟩ = l[i] := by rw [List.getD_eq_getElem?_getD, List.getElem?_eq_getElem hi]; rfl
 cases hv with
 | nils => simp at hi
 | sl l ex =>
  simp only [adr, Qe, Jbp, ha, hz, Nat.mul_one]
  simp [hi]
 | ms id off cap cs e' fl fz l hbx hl hlt hid hcap =>
  simp only [adr, Qe, Jbp, ha, hz, Nat.mul_one, hbx, hl i hi, hg]
end Go.Vm
namespace Go.Vm
open Go
def Ja5 (ops : Array Oper) (o : Oper) : Option (Option Nat × Bool) :=
 match o.guard with
 | none => none
 | some (j, w) => some ((match ops[j]? with
  | some p => p.dst
  | none => none), w)
def Qp (fr : Fr) : Option (Option Nat × Bool) → Bool
 | none => true
 | some (none, _) => false
 | some (some d, w) => match Fr.at fr d with
  | .bool b => b == w
  | _ => false
theorem Jf0 (ops : Array Oper) (fr : Fr) (o : Oper) : Qp fr (Ja5 ops o) = Jm ops fr o := by
 unfold Ja5 Jm
 cases o.guard with
 | none => rfl
 | some p =>
  obtain ⟨j, w⟩ := p
  simp only
  cases ops[j]? with
  | none => rfl
  | some q => cases hq : q.dst with
   | none => simp [Qp, hq]
   | some d => simp only [Qp, hq]; cases Fr.at fr d <;> rfl
def Qh (P : Program) (ih : CallF) (rd : Option Nat) : List (Option (Option Nat × Bool)) → List Oper → Fr → St → OR
 | g :: gs, o :: r, fr, st =>
  match Qp fr g with
  | true => match Jq o.op with
   | false => match vop P ih fr st o.op with
    | .val v st' => Qh P ih rd gs r (Fr.to fr o.dst v) st'
    | .panic v st' => .panic v fr st'
    | .fail w => .fail (o.pos ++ ": " ++ w)
   | true => match rd, JcN P fr o.op with
    | none, some d => Qh P ih rd gs r (Fr.to { fr with ds := d :: fr.ds } o.dst .undef) st
    | _, _ => .fail (o.pos ++ ": defer")
  | false => Qh P ih rd gs r (Fr.to fr o.dst .undef) st
 | _, _, fr, st => .ok fr st
theorem Jir {P : Program} {ih : CallF} {rd : Option Nat} (ops : Array Oper) : ∀ (l : List Oper) (fr : Fr) (st : St), Qh P ih rd (l.map (Ja5 ops)) l fr st = Qr P ih rd ops l fr st
 | [], fr, st => rfl
 | o :: r, fr, st => by
  have ih' := Jir (P := P) (ih := ih) (rd := rd) ops r
  simp only [List.map_cons, Qh, Qr, Jf0]
  cases Jm ops fr o with
  | false => exact ih' _ _
  | true =>
   simp only
   cases Jq o.op with
   | false =>
    simp only
    cases vop P ih fr st o.op with
    | val v st' => exact ih' _ _
    | panic v st' => rfl
    | fail w => rfl
   | true =>
    simp only
    cases rd with
    | some q => rfl
    | none => cases JcN P fr o.op with
     | none => rfl
     | some d => exact ih' _ _
def OkG [Memo] (P : Program) (rd : Option Nat) (gs : List (Option (Option Nat × Bool))) (l : List Oper) (fr : Fr) (st : St) (K : Fr → St → Prop) : Prop :=
 match Qh P (ihCall (W P)) rd gs l fr st with
 | .ok fr' st' => K fr' st'
 | _ => False
theorem Jk5 {P : Program} {ih : CallF} {rd : Option Nat} (n : Nat) : ∀ (gs : List (Option (Option Nat × Bool))) (l : List Oper) (fr : Fr) (st : St), gs.length = l.length → Qh P ih rd gs l fr st =
    match Qh P ih rd (gs.take n) (l.take n) fr st with
    | .ok fr1 st1 => Qh P ih rd (gs.drop n) (l.drop n) fr1 st1
    | r => r := by
  induction n with
  | zero => intro gs l fr st _; simp [Qh]
  | succ n ihn =>
    intro gs l fr st h
    cases gs with
    | nil => cases l with
      | nil => simp [Qh]
      | cons o r => simp at h
    | cons g gs => cases l with
     | nil => simp at h
     | cons o r =>
      have ih' := fun fr st => ihn gs r fr st (by simpa using h)
      simp only [List.take_succ_cons, List.drop_succ_cons, Qh]
      cases Qp fr g with
      | false => exact ih' _ _
      | true =>
        simp only
        cases Jq o.op with
        | false =>
          simp only
          cases vop P ih fr st o.op with
          | val v st' => exact ih' _ _
          | panic v st' => rfl
          | fail w => rfl
        | true =>
          simp only
          cases rd with
          | some q => rfl
          | none => cases JcN P fr o.op with
            | none => rfl
            | some d => exact ih' _ _
theorem OkG.cut [Memo] {P : Program} {rd : Option Nat} {gs : List (Option (Option Nat × Bool))} {l : List Oper} {fr : Fr} {st : St} {Q : Fr → St → Prop} (n : Nat) (R : Fr → St → Prop) (hlen : Nat.beq gs.length l.length = true) (h : OkG P rd (gs.take n) (l.take n) fr st R)
  (k : ∀ fr' st', R fr' st' → OkG P rd (gs.drop n) (l.drop n) fr' st' Q) : OkG P rd gs l fr st Q := by
 unfold OkG at h ⊢
 rw [Jk5 n gs l fr st (Nat.eq_of_beq_eq_true hlen)]
 cases hx : Qh P (ihCall (W P)) rd (gs.take n) (l.take n) fr st with
 | ok fr1 st1 => rw [hx] at h; exact k fr1 st1 h
 | panic v fr1 st1 => rw [hx] at h; exact h.elim
 | fail w => rw [hx] at h; exact h.elim
theorem OkG.cutK [Memo] {P : Program} {rd : Option Nat} {gs : List (Option (Option Nat × Bool))} {l : List Oper} {fr : Fr} {st : St} {Q : Fr → St → Prop} (n : Nat) (M : Fr → St → Prop) (hlen : Nat.beq gs.length l.length = true)
  (h : ∀ K : Fr → St → Prop, (∀ fr' st', M fr' st' → K fr' st') → OkG P rd (gs.take n) (l.take n) fr st K)
  (k : ∀ fr' st', M fr' st' → OkG P rd (gs.drop n) (l.drop n) fr' st' Q) : OkG P rd gs l fr st Q := OkG.cut n M hlen (h M fun _ _ h => h) k
end Go.Vm
namespace Go.Vm
open Go
section
variable [Memo] {P : Program} {rd : Option Nat} {fr : Fr} {st : St} {Q : AE → Fr → St → Prop}
def DoK [Memo] (P : Program) (rd : Option Nat) : List Code → Fr → St → (AE → Fr → St → Prop) → Prop
 | [], fr, st, Q => Q .normal fr st
 | c :: k, fr, st, Q => DoR P rd c fr st (andThen (fun fr st => DoK P rd k fr st Q) Q)
theorem Ks_ {a b : Code} {k : List Code} (h : DoK P rd (a :: b :: k) fr st Q) : DoK P rd (.seq a b :: k) fr st Q := by
 refine DoR.seq (DoR.mono h fun e fr' st' h => ?_)
 cases e with
 | normal => exact h
 | exit id => exact h
 | ret => exact h
 | panic v => exact h
theorem Kk_ {k : List Code} (h : DoK P rd k fr st Q) : DoK P rd (.skip :: k) fr st Q := DoR.skip h
theorem Kq_ {k : List Code} (h : Q .ret fr st) : DoK P rd (.ret :: k) fr st Q := DoR.ret h
theorem Kx_ {id : Nat} {k : List Code} (h : Q (.exit id) fr st) : DoK P rd (.exit id :: k) fr st Q := DoR.exit h
theorem Kt_ {x : Operand} {a b : Code} {k : List Code} (hx : ev fr x = some (.bool true)) (h : DoK P rd (a :: k) fr st Q) : DoK P rd (.cond x a b :: k) fr st Q := DoR.condT hx h
theorem Kf_ {x : Operand} {a b : Code} {k : List Code} (hx : ev fr x = some (.bool false)) (h : DoK P rd (b :: k) fr st Q) : DoK P rd (.cond x a b :: k) fr st Q := DoR.condF hx h
theorem DoK.reg {id : Nat} {ops : Array Oper} {k : List Code} (h : ∀ K : Fr → St → Prop, (∀ fr' st', DoK P rd k fr' st' Q → K fr' st') → OkR P rd ops ops.toList fr st K) : DoK P rd (.region id ops false :: k) fr st Q :=
 DoR.region (h _ fun _ _ h => h)
theorem Kr_ {id : Nat} {ops : Array Oper} {k : List Code} {gs : List (Option (Option Nat × Bool))} (hg : ops.toList.map (Ja5 ops) = gs) (h : ∀ K : Fr → St → Prop, (∀ fr' st', DoK P rd k fr' st' Q → K fr' st') → OkG P rd gs ops.toList fr st K) : DoK P rd (.region id ops false :: k) fr st Q := by
 refine DoK.reg fun K hK => ?_
 have := h K hK
 unfold OkG at this
 rw [← hg, Jir] at this
 exact this
theorem Ka_ {id : Nat} {ops : Array Oper} {k : List Code} {gs : List (Option (Option Nat × Bool))} (h : ∀ K : Fr → St → Prop, (∀ fr' st', DoK P rd k fr' st' Q → K fr' st') → OkG P rd gs ops.toList fr st K) (hg : ops.toList.map (Ja5 ops) = gs := by kernel_rfl) : DoK P rd (.region id ops false :: k) fr st Q := Kr_ hg h
theorem DoK.draw {id : Nat} {ops : Array Oper} {k : List Code} {b l : List Nat} (hb : QS ops = b) (hl : JcO P ops b = l) (hp : Jbb P ops b l = true)
  (h : ∀ K : Fr → St → Prop, (∀ fr' st', DoK P rd k fr' st' Q → K fr' st') →
   match QM P (ihCall (W P)) ops b st.ctr l { fr := fr, st := { st with ctr := st.ctr + ops.size }, snaps := [(ops.size, { st with ctr := st.ctr + ops.size })] } with
   | some d => K d.fr d.st
   | none => False) : DoK P rd (.region id ops true :: k) fr st Q :=
 DoR.draw hb hl hp (h _ fun _ _ h => h)
def JI (P : Program) (ih : CallF) (ops : Array Oper) (b : List Nat) (c0 : Nat) : List Oper → Nat → Drw → Option Drw
 | [], _, d => some d
 | o :: r, i, d => match Jm ops d.fr o with
  | false => JI P ih ops b c0 r (i + 1) { fr := Fr.to d.fr o.dst .undef, st := d.st, snaps := (match Js P o.op with | .e => (i, d.st) :: d.snaps | _ => d.snaps) }
  | true =>
   match Js P o.op with
   | .p => match JB P d.fr d.st o.op with
    | some v => JI P ih ops b c0 r (i + 1) { d with fr := Fr.to d.fr o.dst v }
    | none => none
   | .r => match d.snaps with
    | (_, s0) :: _ => match JB P d.fr s0 o.op with
     | some v => match JM P d.fr o.op v (b.getD i 0) d.snaps with
      | true => JI P ih ops b c0 r (i + 1) { d with fr := Fr.to d.fr o.dst v }
      | false => none
     | none => none
    | [] => none
   | .a => match JK P d.fr o.op with
    | some (cs, e, n) => match cs.all Qn with
     | true => JI P ih ops b c0 r (i + 1) { fr := Fr.to d.fr o.dst (Qq (c0 + i) n), st := { d.st with box := d.st.box.put (c0 + i) (.cells cs e true (some 0)) }, snaps := d.snaps }
     | false => none
    | none => none
   | .e => match Qk P ih d.fr d.st o.op with
    | .val v st' => JI P ih ops b c0 r (i + 1) { fr := Fr.to d.fr o.dst v, st := st', snaps := (i, st') :: d.snaps }
    | _ => none
omit [Memo] in
theorem Jg3 {P : Program} {ih : CallF} {ops : Array Oper} {b : List Nat} {c0 : Nat} : ∀ (l : List Oper) (i : Nat) (d : Drw), ops.toList.drop i = l → QM P ih ops b c0 (List.range' i l.length) d = JI P ih ops b c0 l i d
 | [], i, d, _ => rfl
 | o :: r, i, d, h => by
  have ho : ops[i]? = some o := by
   have := congrArg (fun l => l[0]?) h
   simpa [List.getElem?_drop] using this
  have hr : ops.toList.drop (i + 1) = r := by
   have := congrArg (fun l => l.drop 1) h
   simpa [List.drop_drop] using this
  have ih' : ∀ d, QM P ih ops b c0 (List.range' (i + 1) r.length) d = JI P ih ops b c0 r (i + 1) d := fun d => Jg3 r (i + 1) d hr
  simp only [List.length_cons, List.range'_succ, QM, Q9, ho, JI]
  cases Jm ops d.fr o with
  | false => simp only [ih']; cases Js P o.op <;> rfl
  | true =>
   simp only
   cases Js P o.op with
   | p =>
    simp only
    cases JB P d.fr d.st o.op with
    | none => rfl
    | some v => simp only [ih']
   | r =>
    simp only
    cases hs : d.snaps with
    | nil => rfl
    | cons s sn =>
     simp only
     cases JB P d.fr s.2 o.op with
     | none => rfl
     | some v =>
      simp only
      cases JM P d.fr o.op v (b.getD i 0) (s :: sn) with
      | true => simp only [ih']
      | false => rfl
   | a =>
    simp only
    cases JK P d.fr o.op with
    | none => rfl
    | some v =>
     simp only
     cases v.1.all Qn with
     | true => simp only [ih']
     | false => rfl
   | e =>
    simp only
    cases Qk P ih d.fr d.st o.op with
    | val v st' => simp only [ih']
    | panic v st' => rfl
    | fail w => rfl
def OkD [Memo] (P : Program) (ops : Array Oper) (b : List Nat) (c0 : Nat) (l : List Oper) (i : Nat) (fr : Fr) (st : St) (snaps : List (Nat × St)) (K : Fr → St → Prop) : Prop :=
 match JI P (ihCall (W P)) ops b c0 l i { fr := fr, st := st, snaps := snaps } with
 | some d => K d.fr d.st
 | none => False
theorem Kg_ {id : Nat} {ops : Array Oper} {k : List Code} {b : List Nat} (hb : QS ops = b) (hl : JcO P ops b = List.range' 0 ops.toList.length) (hp : Jbb P ops b (List.range' 0 ops.toList.length) = true)
  (h : ∀ K : Fr → St → Prop, (∀ fr' st', DoK P rd k fr' st' Q → K fr' st') →
   OkD P ops b st.ctr ops.toList 0 fr { ctr := st.ctr + ops.size, box := st.box } [(ops.size, { ctr := st.ctr + ops.size, box := st.box })] K) : DoK P rd (.region id ops true :: k) fr st Q := by
 refine DoK.draw hb hl hp fun K hK => ?_
 rw [Jg3 ops.toList 0 _ rfl]
 exact h K hK
theorem Ki_ {id : Nat} {ops : Array Oper} {k : List Code} {b : List Nat} (h : ∀ K : Fr → St → Prop, (∀ fr' st', DoK P rd k fr' st' Q → K fr' st') →
   OkD P ops b st.ctr ops.toList 0 fr { ctr := st.ctr + ops.size, box := st.box } [(ops.size, { ctr := st.ctr + ops.size, box := st.box })] K) (hb : QS ops = b := by kernel_rfl) (hl : JcO P ops b = List.range' 0 ops.toList.length := by kernel_rfl) (hp : Jbb P ops b (List.range' 0 ops.toList.length) = true := by kernel_rfl) : DoK P rd (.region id ops true :: k) fr st Q := Kg_ hb hl hp h
omit [Memo] in
theorem JeJ {P : Program} {ih : CallF} {ops : Array Oper} {b : List Nat} {c0 : Nat} : ∀ (l m : List Nat) (d : Drw), QM P ih ops b c0 (l ++ m) d = match QM P ih ops b c0 l d with
  | some d' => QM P ih ops b c0 m d'
  | none => none
 | [], m, d => rfl
 | i :: l, m, d => by
  simp only [List.cons_append, QM]
  cases Q9 P ih ops b c0 i d with
  | none => rfl
  | some d' => exact JeJ l m d'
omit [Memo] in
theorem Jfa {P : Program} {ih : CallF} {ops : Array Oper} {b : List Nat} {c0 : Nat} (a n : Nat) (h : a + n ≤ ops.toList.length) (d : Drw) : QM P ih ops b c0 (List.range' a n) d = JI P ih ops b c0 ((ops.toList.drop a).take n) a d := by
 have key : ∀ (n i : Nat) (l : List Oper) (d : Drw), (∀ j (hj : j < l.length), ops[i + j]? = some l[j]) → l.length = n → QM P ih ops b c0 (List.range' i n) d = JI P ih ops b c0 l i d := by
  intro n
  induction n with
  | zero =>
   intro i l d _ hl
   obtain rfl := List.length_eq_zero_iff.1 hl
   rfl
  | succ n ihn =>
   intro i l d hg hl
   match l, hl with
   | o :: r, hl =>
    have ho : ops[i]? = some o := hg 0 (by simp)
    have ih' : ∀ d, QM P ih ops b c0 (List.range' (i + 1) n) d = JI P ih ops b c0 r (i + 1) d := fun d => ihn (i + 1) r d (fun j hj => by
     have := hg (j + 1) (by simpa using hj)
     rw [show i + 1 + j = i + (j + 1) from by omega, this]
     rfl) (by simpa using hl)
    simp only [List.range'_succ, QM, Q9, ho, JI]
    cases Jm ops d.fr o with
    | false => simp only [ih']; cases Js P o.op <;> rfl
    | true =>
     simp only
     cases Js P o.op with
     | p =>
      simp only
      cases JB P d.fr d.st o.op with
      | none => rfl
      | some v => simp only [ih']
     | r =>
      simp only
      cases hs : d.snaps with
      | nil => rfl
      | cons s sn =>
       simp only
       cases JB P d.fr s.2 o.op with
       | none => rfl
       | some v =>
        simp only
        cases JM P d.fr o.op v (b.getD i 0) (s :: sn) with
        | true => simp only [ih']
        | false => rfl
     | a =>
      simp only
      cases JK P d.fr o.op with
      | none => rfl
      | some v =>
       simp only
       cases v.1.all Qn with
       | true => simp only [ih']
       | false => rfl
     | e =>
      simp only
      cases Qk P ih d.fr d.st o.op with
      | val v st' => simp only [ih']
      | panic v st' => rfl
      | fail w => rfl
 refine key n a _ d (fun j hj => ?_) (by simp at h ⊢; omega)
 simp at hj
 simp
def Jb1 (rs : List (Nat × Nat)) : List Nat := rs.flatMap fun r => List.range' r.1 r.2
def JY [Memo] (P : Program) (ops : Array Oper) (b : List Nat) (c0 : Nat) : List (Nat × Nat) → Drw → (Fr → St → Prop) → Prop
 | [], d, K => K d.fr d.st
 | r :: rs, d, K => match JI P (ihCall (W P)) ops b c0 ((ops.toList.drop r.1).take r.2) r.1 d with
  | some d' => JY P ops b c0 rs d' K
  | none => False
theorem Jg4 {P : Program} {ops : Array Oper} {b : List Nat} {c0 : Nat} {K : Fr → St → Prop} : ∀ (rs : List (Nat × Nat)) (d : Drw), (rs.all fun r => Nat.ble (r.1 + r.2) ops.toList.length) = true → JY P ops b c0 rs d K →
  match QM P (ihCall (W P)) ops b c0 (Jb1 rs) d with
  | some d => K d.fr d.st
  | none => False
 | [], d, _, h => h
 | r :: rs, d, hr, h => by
  simp only [List.all_cons, Bool.and_eq_true] at hr
  simp only [JY] at h
  show match QM P (ihCall (W P)) ops b c0 (List.range' r.1 r.2 ++ Jb1 rs) d with
   | some d => K d.fr d.st
   | none => False
  rw [JeJ, Jfa _ _ (Nat.le_of_ble_eq_true hr.1)]
  cases hx : JI P (ihCall (W P)) ops b c0 ((ops.toList.drop r.1).take r.2) r.1 d with
  | none => rw [hx] at h; exact h.elim
  | some d' => rw [hx] at h; exact Jg4 rs d' hr.2 h
theorem Ke_ {id : Nat} {ops : Array Oper} {k : List Code} {b : List Nat} {rs : List (Nat × Nat)} (hb : QS ops = b) (hl : JcO P ops b = Jb1 rs) (hp : Jbb P ops b (Jb1 rs) = true) (hr : (rs.all fun r => Nat.ble (r.1 + r.2) ops.toList.length) = true)
  (h : ∀ K : Fr → St → Prop, (∀ fr' st', DoK P rd k fr' st' Q → K fr' st') →
   JY P ops b st.ctr rs { fr := fr, st := { ctr := st.ctr + ops.size, box := st.box }, snaps := [(ops.size, { ctr := st.ctr + ops.size, box := st.box })] } K) : DoK P rd (.region id ops true :: k) fr st Q := by
 refine DoK.draw hb hl hp fun K hK => ?_
 exact Jg4 rs _ hr (h K hK)
theorem Kj_ {id : Nat} {ops : Array Oper} {k : List Code} {b : List Nat} {rs : List (Nat × Nat)} (h : ∀ K : Fr → St → Prop, (∀ fr' st', DoK P rd k fr' st' Q → K fr' st') →
   JY P ops b st.ctr rs { fr := fr, st := { ctr := st.ctr + ops.size, box := st.box }, snaps := [(ops.size, { ctr := st.ctr + ops.size, box := st.box })] } K) (hb : QS ops = b := by kernel_rfl) (hl : JcO P ops b = Jb1 rs := by kernel_rfl) (hp : Jbb P ops b (Jb1 rs) = true := by kernel_rfl) (hr : (rs.all fun r => Nat.ble (r.1 + r.2) ops.toList.length) = true := by kernel_rfl) : DoK P rd (.region id ops true :: k) fr st Q := Ke_ hb hl hp hr h
theorem Kn_ {c : List Code} (M : Fr → Prop) (h : M fr) (k : ∀ fr, M fr → DoK P rd c fr st Q) : DoK P rd c fr st Q := k fr h
def Jor (id : Nat) : AE → Prop
 | .normal => False
 | .exit j => j ≠ id
 | _ => True
theorem Kb_ {id : Nat} {b : Code} {k : List Code}
  (h : ∀ K : AE → Fr → St → Prop, (∀ fr' st', DoK P rd k fr' st' Q → K .normal fr' st') → (∀ fr' st', DoK P rd k fr' st' Q → K (.exit id) fr' st') → (∀ e fr' st', Jor id e → Q e fr' st' → K e fr' st') → DoK P rd [b] fr st K) :
  DoK P rd (.block id b :: k) fr st Q := by
 refine DoR.block (DoR.mono (h (fun e fr st => inBlock id (andThen (fun fr st => DoK P rd k fr st Q) Q) e fr st) ?_ ?_ ?_) fun e fr' st' h => ?_)
 ·intro fr' st' h; exact h
 ·intro fr' st' h; simp only [inBlock, if_true]; exact h
 ·intro e fr' st' ha h
  cases e with
  | normal => exact ha.elim
  | exit j => simp only [inBlock]; rw [if_neg ha]; exact h
  | ret => exact h
  | panic v => exact h
 ·cases e with
  | normal => exact h
  | exit id => exact h
  | ret => exact h
  | panic v => exact h
theorem Kl_ {id : Nat} {b : Code} {k : List Code} (N : Nat) (I : Nat → Fr → St → Prop) (i0 : Nat) (M : Fr → St → Prop) (h0 : I i0 fr st) (hb : ∀ i fr st, I i fr st → i ≤ N)
  (step : ∀ i fr st, I i fr st → ∀ K : AE → Fr → St → Prop, (∀ j fr' st', i < j → I j fr' st' → K .normal fr' st') → (∀ fr' st', M fr' st' → K (.exit id) fr' st') → (∀ e fr' st', Jor id e → Q e fr' st' → K e fr' st') → DoK P rd [b] fr st K)
  (tail : ∀ fr' st', M fr' st' → DoK P rd k fr' st' Q) : DoK P rd (.block id (.loop b) :: k) fr st Q := by
 refine DoR.block (DoR.up N I i0 h0 hb fun i fr1 st1 hi => ?_)
 refine DoR.mono (step i fr1 st1 hi (fun e fr st => andThen (fun fr' st' => ∃ j, i < j ∧ I j fr' st') (inBlock id (andThen (fun fr st => DoK P rd k fr st Q) Q)) e fr st) ?_ ?_ ?_) fun e fr' st' h => ?_
 ·intro j fr' st' hj h; exact ⟨j, hj, h⟩
 ·intro fr' st' h; simp only [andThen, inBlock, if_true]; exact tail _ _ h
 ·intro e fr' st' ha h
  cases e with
  | normal => exact ha.elim
  | exit j => simp only [andThen, inBlock]; rw [if_neg ha]; exact h
  | ret => exact h
  | panic v => exact h
 ·cases e with
  | normal => exact h
  | exit id => exact h
  | ret => exact h
  | panic v => exact h
def JoK : AE → Prop
 | .normal => False
 | _ => True
theorem Km_ {a : Code} {k : List Code} (M : Fr → St → Prop)
  (h : ∀ K : AE → Fr → St → Prop, (∀ fr' st', M fr' st' → K .normal fr' st') → (∀ e fr' st', JoK e → Q e fr' st' → K e fr' st') → DoK P rd [a] fr st K)
  (tail : ∀ fr' st', M fr' st' → DoK P rd k fr' st' Q) : DoK P rd (a :: k) fr st Q := by
 refine DoR.mono (h (fun e fr st => andThen (fun fr st => DoK P rd k fr st Q) Q e fr st) (fun _ _ h => tail _ _ h) ?_) fun e fr' st' h => ?_
 ·intro e fr' st' ha h
  cases e with
  | normal => exact ha.elim
  | exit j => exact h
  | ret => exact h
  | panic v => exact h
 ·cases e with
  | normal => exact h
  | exit id => exact h
  | ret => exact h
  | panic v => exact h
theorem JS {gl : Gl} {f : Nat} {args : List V} {fn : Func} {c : Code} {R : V → St → Prop} (hn : (Memo.look f).run args st = none) (hf : P.funcs[f]? = some fn) (hb : fn.body = some c)
  (hs : (Nat.ble args.length fn.ntmps && Qg fn.ntmps c) = true)
  (h : ∀ R' : V → St → Prop, (∀ v st', R v st' → R' v st') → ∀ K : AE → Fr → St → Prop, (∀ fr st, JC P fn R' .ret fr st → K .ret fr st) → (∀ fr st, JC P fn R' .normal fr st → K .normal fr st) → DoK P none [c] (Jx gl args) st K) : Says P gl f args st R := by
 refine JnL hn hf hb hs (DoR.mono (h R (fun _ _ h => h) (JC P fn R) (fun _ _ h => h) (fun _ _ h => h)) fun e fr' st' h => ?_)
 cases e with
 | normal => exact h
 | exit id => exact h
 | ret => exact h
 | panic v => exact h
end
theorem Jw {P : Program} {st : St} {c : Nat} {T : TypeId} {a : V} : Qe P { ctr := st.ctr + c, box := st.box } T a = Qe P st T a := by cases a <;> rfl
theorem QC {st : St} {x : Bx} {i : Nat} : (st.new x).box.get i = if i = st.ctr then some x else st.box.get i := Tr.get_put ..
theorem put_get {st : St} {x : Bx} {j i : Nat} : (st.put j x).box.get i = if i = j then some x else st.box.get i := Tr.get_put ..
theorem JbP {st : St} {x : Bx} : (st.new x).ctr = st.ctr + 1 := rfl
theorem Q3 {st : St} {x : Bx} {j : Nat} : (st.put j x).ctr = st.ctr := rfl
theorem Keep.new' {a b : St} (h : Keep a b) (x : Bx) : Keep a (b.new x) := h.new x
theorem Keep.put' {a b : St} (h : Keep a b) {id : Nat} (hid : a.ctr ≤ id) (x : Bx) : Keep a (b.put id x) := h.put hid x
end Go.Vm
namespace Go.Vm
open Go Go.Proofs Go.Pa
section
variable {st : St} {l : List Fw} {i : Nat}
end
structure MayF (l : List Fw) : Prop where
 pos : 0 < l.length
 head : JnN l = true
 one : ∀ j (h : j < l.length), JpX l[j] = true
 kid : ∀ j (h : j < l.length) k, k ∈ l[j].kids → (j : Int) < k ∧ k < (l.length : Int)
 once : ∀ m, 1 ≤ m → m < l.length → (Jpx l).count (m : Int) = 1
end Go.Vm
namespace Go.Vm
open Go Go.Proofs Go.Pa
attribute [local simp] OkG Qh Qp OkD JY JI Jm Jq vop Js JB ev evs toV Jl Fr.dsTo Fr.glTo Fr.toNone Ji Jj Jk Qk Jd JD Jv V.undef JW QM Q9 JM J7 JX J3 J9 J8 Qa JH J4 J5 JZ JO Qb Jt Ju Jw Jz JE Jr JL JN
theorem JnM {l : List S} {i : Nat} (h : i < l.length) : l.getD i ⟨0, 0⟩ = l[i] := by rw [List.getD_eq_getElem?_getD, List.getElem?_eq_getElem h]; rfl
variable [Memo] [NY]
end Go.Vm
namespace Go.Vm
open Go
inductive Mine (lo : Nat) (e : TypeId) (st : St) : V → List V → Prop
 | nils : Mine lo e st .nils []
 | ms (id n : Nat) (cap : Option Nat) (cs : List V) (fl : Bool) (hlo : lo ≤ id) (hid : id < st.ctr) (hb : st.box.get id = some (.cells cs e fl (some 0))) (hn : n ≤ cs.length) (hcap : ∀ c, cap = some c → n ≤ c ∧ c ≤ cs.length) :
   Mine lo e st (.ms id 0 n 1 cap) (cs.take n)
def Jbv (st : St) (x : V) (l : List V) : Prop := Jad st 1 x = some (l, l.length) ∧ l.all Qn = true
theorem JkB (l : List S) : (l.map V.str).all Qn = true := by simp [Qn]
theorem Vw.srcs {st : St} {x : V} {l : List S} (h : Vw st x l) : Jbv st x (l.map .str) := ⟨by rw [h.src, List.length_map], JkB l⟩
theorem Mine.src {lo : Nat} {e : TypeId} {st : St} {x : V} {l : List V} (h : Mine lo e st x l) (ho : l.all Qn = true) : Jbv st x l := by
 refine ⟨?_, ho⟩
 cases h with
 | nils => rfl
 | ms id n cap cs fl hlo hid hb hn hcap =>
  have h1 : Nat.ble (0 + n) cs.length = true := Nat.ble_eq_true_of_le (by omega)
  simp only [Jad, JP, hb, Nat.mul_one, h1, sub, List.drop_zero, List.length_take, Nat.min_eq_left hn]
theorem Mine.vw {lo : Nat} {e : TypeId} {st : St} {x : V} {l : List S} (h : Mine lo e st x (l.map .str)) : Vw st x l := by
 generalize hm : l.map V.str = m at h
 cases h with
 | nils =>
  have : l = [] := by simpa using hm
  subst this
  exact .nils
 | ms id n cap cs fl hlo hid hb hn hcap =>
  have hl : l.length = n := by have := congrArg List.length hm; simpa [Nat.min_eq_left hn] using this
  subst hl
  refine .ms id 0 cap cs e fl (some 0) l hb (fun i hi => ?_) (by omega) hid ?_
  ·have := congrArg (fun m => m[i]?) hm
   simp only [List.getElem?_map, List.getElem?_take, if_pos hi, List.getElem?_eq_getElem hi, Option.map_some] at this
   rw [Nat.zero_add, ← this, List.getD_eq_getElem?_getD, List.getElem?_eq_getElem hi]; rfl
  ·cases cap with
   | none => exact JbL _
   | some c => exact Nat.ble_eq_true_of_le (hcap c rfl).1
theorem Mine.keep {lo : Nat} {e : TypeId} {st st' : St} {x : V} {l : List V} (h : Mine lo e st x l) (hk : Keep st st') : Mine lo e st' x l := by
 cases h with
 | nils => exact .nils
 | ms id n cap cs fl hlo hid hb hn hcap => exact .ms id n cap cs fl hlo (Nat.lt_of_lt_of_le hid hk.ctr) (by rw [hk.box id hid]; exact hb) hn hcap
theorem Mine.low {lo lo' : Nat} {e : TypeId} {st : St} {x : V} {l : List V} (h : Mine lo e st x l) (hl : lo' ≤ lo) : Mine lo' e st x l := by
 cases h with
 | nils => exact .nils
 | ms id n cap cs fl hlo hid hb hn hcap => exact .ms id n cap cs fl (Nat.le_trans hl hlo) hid hb hn hcap
structure Low (lo : Nat) (st st' : St) : Prop where
 ctr : st.ctr ≤ st'.ctr
 box : ∀ id, id < lo → st'.box.get id = st.box.get id
theorem Low.keep {lo : Nat} {a b c : St} (h : Low lo b c) (k : Keep a b) (hl : a.ctr ≤ lo) : Keep a c := ⟨Nat.le_trans k.ctr h.ctr, fun id hi => (h.box id (by omega)).trans (k.box id hi)⟩
theorem Low.refl (lo : Nat) (st : St) : Low lo st st := ⟨Nat.le_refl _, fun _ _ => rfl⟩
theorem Low.trans {lo : Nat} {a b c : St} (h : Low lo a b) (k : Low lo b c) : Low lo a c := ⟨Nat.le_trans h.ctr k.ctr, fun id hi => (k.box id hi).trans (h.box id hi)⟩
theorem Low.of {lo : Nat} {a b : St} (h : Keep a b) (hl : lo ≤ a.ctr) : Low lo a b := ⟨h.ctr, fun id hi => h.box id (by omega)⟩
theorem Jg5 (cs news : List V) (n : Nat) (h : n ≤ cs.length) : (over cs n news).take (n + news.length) = cs.take n ++ news := by
 unfold over
 rw [List.append_assoc, List.take_append, List.take_of_length_le (by simp; omega), List.length_take, Nat.min_eq_left h]
 congr 1
 rw [Nat.add_sub_cancel_left, List.take_append_of_le_length (by simp), List.take_of_length_le (by simp)]
theorem Jd6 (cs news : List V) (n : Nat) (h : n + news.length ≤ cs.length) : (over cs n news).length = cs.length := by
 unfold over; simp; omega
variable {P : Program} {T e : TypeId}
def vid : V → Nat → Prop
 | .ms id _ _ _ _, i => i = id
 | _, _ => False
theorem Mine.stab {lo : Nat} {e : TypeId} {st st' : St} {x : V} {l : List V} (h : Mine lo e st x l) (hc : st.ctr ≤ st'.ctr) (hb : ∀ i, vid x i → st'.box.get i = st.box.get i) : Mine lo e st' x l := by
 cases h with
 | nils => exact .nils
 | ms id n cap cs fl hlo hid hb' hn hcap => exact .ms id n cap cs fl hlo (Nat.lt_of_lt_of_le hid hc) (by rw [hb id rfl]; exact hb') hn hcap
theorem Mine.vid_lt {lo : Nat} {e : TypeId} {st : St} {x : V} {l : List V} (h : Mine lo e st x l) {i : Nat} (hi : vid x i) : lo ≤ i ∧ i < st.ctr := by
 cases h with
 | nils => exact hi.elim
 | ms id n cap cs fl hlo hid hb' hn hcap => obtain rfl := (show i = id from hi); exact ⟨hlo, hid⟩
theorem Mine.sim {lo : Nat} {e : TypeId} {st : St} {x : V} {l : List V} (h : Mine lo e st x l) : JgL x = true := by cases h <;> rfl
theorem Mine.one {lo : Nat} {e : TypeId} {st : St} {x : V} {l : List V} (h : Mine lo e st x l) : Qn x = true := by cases h <;> rfl
theorem Mine.push2 {i : TypeInfo} {z : V} (hT : P.underlying T = some (.slice e)) (hi : P.info? e = some i) (hs : i.size = 1) (hzv : Jat P e = some z) (hzc : z.cells.length = 1) {st : St} {x s : V} {l m : List V} {lo : Nat} (h : Mine lo e st x l)
  (hm : Jbv st s m) (hlo : lo ≤ st.ctr) (hb1 : (l.length + m.length) * i.bytes ≤ JA) (hb2 : l.length + m.length ≤ JA) :
  ∃ y st', QE P st T x s = some (y, st') ∧ Low lo st st' ∧ Mine lo e st' y (l ++ m) ∧ (∀ i, vid y i → vid x i ∨ st.ctr ≤ i) ∧ ∀ i, i < st.ctr → ¬ vid x i → st'.box.get i = st.box.get i := by
 obtain ⟨hsrc, hone⟩ := hm
 have h0 : Nat.beq 1 0 = false := rfl
 by_cases hme : m.length = 0
 ·obtain rfl := List.length_eq_zero_iff.1 hme
  refine ⟨x, st, ?_, .refl _ _, by rw [List.append_nil]; exact h, fun i hi => .inl hi, fun _ _ _ => rfl⟩
  cases h with
  | nils => simp only [QE, hT, hi, hs, hzv, hsrc, JP]; rfl
  | ms id n cap cs fl hlo hid hb hn hcap =>
   have h1 : Nat.ble (0 + n * 1) cs.length = true := Nat.ble_eq_true_of_le (by omega)
   simp only [QE, hT, hi, hs, hzv, hsrc, JP, hb, h1]; rfl
 ·have hmb : Nat.beq m.length 0 = false := by rw [Jfx]; exact decide_eq_false hme
  have q1 : Nat.ble ((l.length + m.length) * i.bytes) JA = true := Nat.ble_eq_true_of_le hb1
  have q2 : Nat.ble (l.length + m.length) JA = true := Nat.ble_eq_true_of_le hb2
  have q3 : Nat.beq z.cells.length 1 = true := by rw [hzc]; rfl
  have knew : ∀ (cs : List V) (b : Tr Bx), (∀ id, id < lo → b.get id = st.box.get id) → Low lo st { ctr := st.ctr + 1, box := b.put st.ctr (.cells cs e false (some 0)) } := fun cs b hbx => ⟨Nat.le_succ _, fun id hid => by
   show (b.put st.ctr _).get id = _
   rw [Tr.get_put, if_neg (by omega)]; exact hbx id hid⟩
  have mnew : ∀ (b : Tr Bx), Mine lo e { ctr := st.ctr + 1, box := b.put st.ctr (.cells (l ++ m) e false (some 0)) } (.ms st.ctr 0 (l.length + m.length) 1 none) (l ++ m) := fun b => by
   have := Mine.ms (lo := lo) (e := e) (st := { ctr := st.ctr + 1, box := b.put st.ctr (.cells (l ++ m) e false (some 0)) }) st.ctr (l.length + m.length) none (l ++ m) false hlo (Nat.lt_succ_self _) (by show (b.put st.ctr _).get _ = _; rw [Tr.get_put, if_pos rfl]) (by simp) (fun c hc => by cases hc)
   rwa [List.take_of_length_le (by simp)] at this
  cases h with
  | nils =>
   refine ⟨.ms st.ctr 0 ([].length + m.length) 1 none, { ctr := st.ctr + 1, box := st.box.put st.ctr (.cells ([] ++ m) e false (some 0)) }, ?_, knew _ _ fun _ _ => rfl, mnew _, fun i hi => .inr (Nat.le_of_eq (show i = st.ctr from hi).symm), fun i hi _ => by show (st.box.put st.ctr _).get i = _; rw [Tr.get_put, if_neg (by omega)]⟩
   simp only [QE, hT, hi, hs, h0, hzv, hsrc, JP, hmb, q3, hone]
   rw [show Nat.ble ((0 + m.length) * i.bytes) JA = true from q1, show Nat.ble (0 + m.length) JA = true from q2]
   simp
  | ms id n cap cs fl hlo' hid hb hn hcap =>
   have h1 : Nat.ble (0 + n * 1) cs.length = true := Nat.ble_eq_true_of_le (by omega)
   have hlen : (cs.take n).length = n := by simp [Nat.min_eq_left hn]
   have hsub : sub cs 0 (n * 1) = cs.take n := by simp [sub]
   have e1 : Nat.beq 1 1 = true := rfl
   rw [hlen] at q1 q2 mnew
   have hgen : ∀ y st', (match Jam cs.length 0 n m.length 1 cap with
     | .here => (match Nat.ble (0 + (n + m.length) * 1) cs.length && Jb6 (some 0) (0 + n * 1) with
      | true => some (V.ms id 0 (n + m.length) 1 cap, { st with box := st.box.put id (.cells (over cs (0 + n * 1) m) e fl (some 0)) })
      | false => none)
     | .fresh => some (V.ms st.ctr 0 (n + m.length) 1 none, { ctr := st.ctr + 1, box := st.box.put st.ctr (.cells (cs.take n ++ m) e false (some 0)) })
     | .gone => (match Jb6 (some 0) (0 + n * 1) && Nat.beq e e with
      | true => some (V.ms st.ctr 0 (n + m.length) 1 none, { ctr := st.ctr + 1, box := (st.box.del id).put st.ctr (.cells (cs.take n ++ m) e false (Jhf (some 0) 0)) })
      | false => none)) = some (y, st') → QE P st T (.ms id 0 n 1 cap) s = some (y, st') := fun y st' hh => by
    simp only [QE, hT, hi, hs, h0, hzv, hsrc, JP, hb, h1, hmb, q1, q2, q3, hone, hsub, Bool.and_self, e1]
    exact hh
   have hfz : Jb6 (some 0) (0 + n * 1) = true := Nat.ble_eq_true_of_le (Nat.zero_le _)
   have hee : Nat.beq e e = true := Nat.beq_refl e
   have here : n + m.length ≤ cs.length → (∀ c, cap = some c → n + m.length ≤ c) → (match Nat.ble (0 + (n + m.length) * 1) cs.length && Jb6 (some 0) (0 + n * 1) with
      | true => some (V.ms id 0 (n + m.length) 1 cap, ({ st with box := st.box.put id (.cells (over cs (0 + n * 1) m) e fl (some 0)) } : St))
      | false => none) = some (V.ms id 0 (n + m.length) 1 cap, { st with box := st.box.put id (.cells (over cs n m) e fl (some 0)) }) ∧
     Low lo st { st with box := st.box.put id (.cells (over cs n m) e fl (some 0)) } ∧ Mine lo e { st with box := st.box.put id (.cells (over cs n m) e fl (some 0)) } (.ms id 0 (n + m.length) 1 cap) (cs.take n ++ m) := fun hle hc => by
    have h2 : Nat.ble (0 + (n + m.length) * 1) cs.length = true := Nat.ble_eq_true_of_le (by omega)
    refine ⟨by rw [h2, hfz, show 0 + n * 1 = n from by omega]; rfl, ⟨Nat.le_refl _, fun i hi => by show (st.box.put id _).get i = _; rw [Tr.get_put, if_neg (by omega)]⟩, ?_⟩
    have := Mine.ms (lo := lo) (e := e) (st := { st with box := st.box.put id (.cells (over cs n m) e fl (some 0)) }) id (n + m.length) cap (over cs n m) fl hlo' hid (by show (st.box.put id _).get _ = _; rw [Tr.get_put, if_pos rfl]) (by rw [Jd6 _ _ _ hle]; exact hle) (fun c hc' => by rw [Jd6 _ _ _ hle]; exact ⟨hc c hc', (hcap c hc').2⟩)
    rwa [Jg5 _ _ _ hn] at this
   cases cap with
   | some c =>
    by_cases hc : n + m.length ≤ c
    ·obtain ⟨a1, a2, a3⟩ := here (by have := (hcap c rfl).2; omega) (fun c' hc' => by cases hc'; exact hc)
     refine ⟨_, _, hgen _ _ ?_, a2, a3, fun i hi => .inl hi, fun i hi hn => by show (st.box.put id _).get i = _; rw [Tr.get_put, if_neg (show ¬ i = id from hn)]⟩
     rw [show Jam cs.length 0 n m.length 1 (some c) = .here from by simp only [Jam, Nat.ble_eq_true_of_le hc]]
     exact a1
    ·refine ⟨_, _, hgen (.ms st.ctr 0 (n + m.length) 1 none) { ctr := st.ctr + 1, box := st.box.put st.ctr (.cells (cs.take n ++ m) e false (some 0)) } ?_, knew _ _ fun _ _ => rfl, mnew _, fun i hi => .inr (Nat.le_of_eq (show i = st.ctr from hi).symm), fun i hi _ => by show (st.box.put st.ctr _).get i = _; rw [Tr.get_put, if_neg (by omega)]⟩
     have hcb : Nat.ble (n + m.length) c = false := by
      cases hx : Nat.ble (n + m.length) c with
      | false => rfl
      | true => exact absurd (Nat.le_of_ble_eq_true hx) hc
     rw [show Jam cs.length 0 n m.length 1 (some c) = .fresh from by simp only [Jam, hcb]]
   | none =>
    by_cases hc : n + m.length ≤ cs.length
    ·obtain ⟨a1, a2, a3⟩ := here hc (fun c' hc' => by cases hc')
     refine ⟨_, _, hgen _ _ ?_, a2, a3, fun i hi => .inl hi, fun i hi hn => by show (st.box.put id _).get i = _; rw [Tr.get_put, if_neg (show ¬ i = id from hn)]⟩
     rw [show Jam cs.length 0 n m.length 1 none = .here from by simp only [Jam, Nat.ble_eq_true_of_le (show 0 + (n + m.length) * 1 ≤ cs.length by omega)]]
     exact a1
    ·refine ⟨_, _, hgen (.ms st.ctr 0 (n + m.length) 1 none) { ctr := st.ctr + 1, box := (st.box.del id).put st.ctr (.cells (cs.take n ++ m) e false (some 0)) } ?_, knew _ _ fun i hi => by rw [Tr.get_del, if_neg (by omega)], mnew _, fun i hi => .inr (Nat.le_of_eq (show i = st.ctr from hi).symm), fun i hi hn => by show ((st.box.del id).put st.ctr _).get i = _; rw [Tr.get_put, if_neg (by omega), Tr.get_del, if_neg (show ¬ i = id from hn)]⟩
     have hcb : Nat.ble (0 + (n + m.length) * 1) cs.length = false := by
      cases hx : Nat.ble (0 + (n + m.length) * 1) cs.length with
      | false => rfl
      | true => exact absurd (Nat.le_of_ble_eq_true hx) (by omega)
     rw [show Jam cs.length 0 n m.length 1 none = .gone from by simp only [Jam, hcb]]
     simp only [hfz, hee, Bool.and_self]
     rfl
theorem Mine.push {i : TypeInfo} {z : V} (hT : P.underlying T = some (.slice e)) (hi : P.info? e = some i) (hs : i.size = 1) (hzv : Jat P e = some z) (hzc : z.cells.length = 1) {st : St} {x s : V} {l m : List V} {lo : Nat} (h : Mine lo e st x l)
  (hm : Jbv st s m) (hlo : lo ≤ st.ctr) (hb1 : (l.length + m.length) * i.bytes ≤ JA) (hb2 : l.length + m.length ≤ JA) :
  ∃ y st', QE P st T x s = some (y, st') ∧ Low lo st st' ∧ Mine lo e st' y (l ++ m) ∧ ∀ i, vid y i → vid x i ∨ st.ctr ≤ i := by
 obtain ⟨y, st', h1, h2, h3, h4, _⟩ := h.push2 hT hi hs hzv hzc hm hlo hb1 hb2
 exact ⟨y, st', h1, h2, h3, h4⟩
theorem Mine.set (hz : Qj P e = some 1) {st : St} {x v : V} {l : List V} {lo i : Nat} (h : Mine lo e st x l) (hi : i < l.length) (hv : JgL v = true) :
  ∃ st', Q0 P st e (adr 1 x i) v = some st' ∧ Low lo st st' ∧ Mine lo e st' x (l.set i v) := by
 cases h with
 | nils => simp at hi
 | ms id n cap cs fl hlo hid hb hn hcap =>
  have hi' : i < cs.length := by simp at hi; omega
  have hin : i < n := by simp at hi; omega
  refine ⟨{ st with box := st.box.put id (.cells (cs.set i v) e fl (some 0)) }, by simp only [adr, Nat.zero_add, Nat.mul_one]; exact QR hz hb hi' hv, ⟨Nat.le_refl _, fun j hj => by show (st.box.put id _).get j = _; rw [Tr.get_put, if_neg (by omega)]⟩, ?_⟩
  have := Mine.ms (lo := lo) (e := e) (st := { st with box := st.box.put id (.cells (cs.set i v) e fl (some 0)) }) id n cap (cs.set i v) fl hlo hid (by show (st.box.put id _).get _ = _; rw [Tr.get_put, if_pos rfl]) (by simpa using hn) (fun c hc => by simpa using hcap c hc)
  rwa [List.take_set] at this
theorem Mine.len (hT : P.underlying T = some (.slice e)) {st : St} {x : V} {l : List V} {lo : Nat} (h : Mine lo e st x l) : Jab P T x = some (.int .i64 (l.length : Int)) := by
 cases h with
 | nils => simp [Jab, hT]
 | ms id n cap cs fl hlo hid hb hn hcap => simp [Jab, hT, Nat.min_eq_left hn]
theorem Mine.ix (hT : P.underlying T = some (.slice e)) (hz : Qj P e = some 1) {st : St} {x : V} {l : List V} {lo : Nat} (h : Mine lo e st x l) {k : IntKind} {a : Int} (h0 : 0 ≤ a) (h1 : a < (l.length : Int)) :
  Jo P T x (.int k a) = some (adr 1 x a.toNat) := by
 have h2 := JeI (k := k) h0
 cases h with
 | nils => simp at h1; omega
 | ms id n cap cs fl hlo hid hb hn hcap =>
  have hb : Nat.blt a.toNat n = true := by rw [JbD]; simp at h1; exact decide_eq_true (by omega)
  simp only [Jo, hT, h2, hz, hb, adr]
theorem Mine.mk {lo : Nat} {st : St} {id n : Nat} {cs : List V} {fl : Bool} (hlo : lo ≤ id) (hid : id < st.ctr) (hb : st.box.get id = some (.cells cs e fl (some 0))) (hn : cs.length = n) : Mine lo e st (.ms id 0 n 1 (some n)) cs := by
 have := Mine.ms (lo := lo) (e := e) (st := st) id n (some n) cs fl hlo hid hb (by omega) (fun c hc => by cases hc; omega)
 rwa [List.take_of_length_le (by omega)] at this
end Go.Vm
namespace Go.Vm
open Go Go.Proofs Go.Pa
attribute [local simp] OkG Qh Qp OkD JY Qr JI Jm Jq vop Js JB ev evs toV Jl Fr.dsTo Fr.glTo Fr.toNone Ji Jj Jk Qk QL Jd JD Jv V.undef JW JM J7 JX J3 J9 J8 Qa JH J4 J5 JZ JO Qb Jt Ju Jw Jz JE Jr JL JN
set_option maxRecDepth 100000 in
theorem i9 : ∃ i, Tryz.prog.info? 9 = some i ∧ i.size = 1 ∧ i.bytes ≤ 64 := ⟨_, rfl, by decide, by decide⟩
theorem zs9 : Jat Tryz.prog 9 = some (.str ⟨0, 0⟩) := by kernel_rfl
theorem bs0 : Q8 Tryz.prog 22 0 [] = some ([], 9, 1) := by kernel_rfl
theorem bs1 (s : S) : Q8 Tryz.prog 22 1 [(0, .str s)] = some ([.str s], 9, 1) := by kernel_rfl
theorem JjG {st : St} {x s : V} {l m : List V} {lo : Nat} (h : Mine lo 9 st x l) (hm : Jbv st s m) (hlo : lo ≤ st.ctr) (hb : l.length + m.length ≤ 1000000) :
  ∃ y st', QE Tryz.prog st 22 x s = some (y, st') ∧ Low lo st st' ∧ Mine lo 9 st' y (l ++ m) ∧ ∀ i, vid y i → vid x i ∨ st.ctr ≤ i := by
 obtain ⟨i, hi, h1, h2⟩ := i9
 refine h.push Tryz.underlying22 hi h1 zs9 rfl hm hlo ?_ (by simp [JA]; omega)
 refine Nat.le_trans (Nat.mul_le_mul hb h2) (by simp [JA])
theorem JoL {lo : Nat} {st : St} {cs : List V} (hlo : lo ≤ st.ctr) : Mine lo 9 (st.new (.cells cs 9 true (some 0))) (.ms st.ctr 0 cs.length 1 (some cs.length)) cs :=
 Mine.mk hlo (Nat.lt_succ_self _) (by rw [QC, if_pos rfl]) rfl
variable [Memo] [NY]
end Go.Vm
namespace Go.Vm
open Go
def Qi (P : Program) (ih : CallF) (b : List Nat) (c0 : Nat) : List (Option (Option Nat × Bool)) → List Oper → Nat → Drw → Option Drw
 | g :: gs, o :: r, i, d => match Qp d.fr g with
  | false => Qi P ih b c0 gs r (i + 1) { fr := Fr.to d.fr o.dst .undef, st := d.st, snaps := (match Js P o.op with | .e => (i, d.st) :: d.snaps | _ => d.snaps) }
  | true =>
   match Js P o.op with
   | .p => match JB P d.fr d.st o.op with
    | some v => Qi P ih b c0 gs r (i + 1) { d with fr := Fr.to d.fr o.dst v }
    | none => none
   | .r => match d.snaps with
    | (_, s0) :: _ => match JB P d.fr s0 o.op with
     | some v => match JM P d.fr o.op v (b.getD i 0) d.snaps with
      | true => Qi P ih b c0 gs r (i + 1) { d with fr := Fr.to d.fr o.dst v }
      | false => none
     | none => none
    | [] => none
   | .a => match JK P d.fr o.op with
    | some (cs, e, n) => match cs.all Qn with
     | true => Qi P ih b c0 gs r (i + 1) { fr := Fr.to d.fr o.dst (Qq (c0 + i) n), st := { d.st with box := d.st.box.put (c0 + i) (.cells cs e true (some 0)) }, snaps := d.snaps }
     | false => none
    | none => none
   | .e => match Qk P ih d.fr d.st o.op with
    | .val v st' => Qi P ih b c0 gs r (i + 1) { fr := Fr.to d.fr o.dst v, st := st', snaps := (i, st') :: d.snaps }
    | _ => none
 | _, _, _, d => some d
theorem Jg6 {P : Program} {ih : CallF} {ops : Array Oper} {b : List Nat} {c0 : Nat} : ∀ (l : List Oper) (i : Nat) (d : Drw), Qi P ih b c0 (l.map (Ja5 ops)) l i d = JI P ih ops b c0 l i d
 | [], i, d => rfl
 | o :: r, i, d => by
  have ih' := fun j d => Jg6 (P := P) (ih := ih) (ops := ops) (b := b) (c0 := c0) r j d
  simp only [List.map_cons, Qi, JI, Jf0, ih'] <;> rfl
theorem JjH {P : Program} {ih : CallF} {b : List Nat} {c0 : Nat} (n : Nat) : ∀ (gs : List (Option (Option Nat × Bool))) (l : List Oper) (i : Nat) (d : Drw), gs.length = l.length → Qi P ih b c0 gs l i d =
    match Qi P ih b c0 (gs.take n) (l.take n) i d with
    | some d1 => Qi P ih b c0 (gs.drop n) (l.drop n) (i + n) d1
    | none => none := by
  induction n with
  | zero => intro gs l i d _; simp [Qi]
  | succ n ihn =>
    intro gs l i d h
    cases gs with
    | nil => cases l with
      | nil => simp [Qi]
      | cons o r => simp at h
    | cons g gs => cases l with
     | nil => simp at h
     | cons o r =>
      have ih' := fun d => ihn gs r (i + 1) d (by simpa using h)
      rw [show i + 1 + n = i + (n + 1) by omega] at ih'
      simp only [List.take_succ_cons, List.drop_succ_cons, Qi]
      cases Qp d.fr g with
      | false => exact ih' _
      | true =>
        simp only
        cases Js P o.op with
        | p =>
          simp only
          cases JB P d.fr d.st o.op with
          | none => rfl
          | some v => exact ih' _
        | r =>
          simp only
          cases d.snaps with
          | nil => rfl
          | cons s sn =>
            simp only
            cases JB P d.fr s.2 o.op with
            | none => rfl
            | some v =>
              simp only
              cases JM P d.fr o.op v (b.getD i 0) (s :: sn) with
              | true => exact ih' _
              | false => rfl
        | a =>
          simp only
          cases JK P d.fr o.op with
          | none => rfl
          | some v =>
            simp only
            cases v.1.all Qn with
            | true => exact ih' _
            | false => rfl
        | e =>
          simp only
          cases Qk P ih d.fr d.st o.op with
          | val v st' => exact ih' _
          | panic v st' => rfl
          | fail w => rfl
def OkS [Memo] (P : Program) (b : List Nat) (c0 : Nat) (gs : List (Option (Option Nat × Bool))) (l : List Oper) (i : Nat) (fr : Fr) (st : St) (snaps : List (Nat × St)) (K : Fr → St → List (Nat × St) → Prop) : Prop :=
 match Qi P (ihCall (W P)) b c0 gs l i { fr := fr, st := st, snaps := snaps } with
 | some d => K d.fr d.st d.snaps
 | none => False
theorem OkS.cutK [Memo] {P : Program} {b : List Nat} {c0 : Nat} {gs : List (Option (Option Nat × Bool))} {l : List Oper} {i : Nat} {fr : Fr} {st : St} {snaps : List (Nat × St)} {Q : Fr → St → List (Nat × St) → Prop} (n : Nat) (M : Fr → St → List (Nat × St) → Prop) (hlen : Nat.beq gs.length l.length = true)
  (h : ∀ K : Fr → St → List (Nat × St) → Prop, (∀ fr' st' sn, M fr' st' sn → K fr' st' sn) → OkS P b c0 (gs.take n) (l.take n) i fr st snaps K)
  (k : ∀ fr' st' sn, M fr' st' sn → OkS P b c0 (gs.drop n) (l.drop n) (i + n) fr' st' sn Q) : OkS P b c0 gs l i fr st snaps Q := by
 have h1 := h M fun _ _ _ h => h
 unfold OkS at h1 ⊢
 rw [JjH n gs l i _ (Nat.eq_of_beq_eq_true hlen)]
 cases hx : Qi P (ihCall (W P)) b c0 (gs.take n) (l.take n) i { fr := fr, st := st, snaps := snaps } with
 | some d => rw [hx] at h1; exact k d.fr d.st d.snaps h1
 | none => rw [hx] at h1; exact h1.elim
theorem Kd_ [Memo] {P : Program} {rd : Option Nat} {fr : Fr} {st : St} {Q : AE → Fr → St → Prop} {id : Nat} {ops : Array Oper} {k : List Code} {b : List Nat} {gs : List (Option (Option Nat × Bool))} (hb : QS ops = b) (hl : JcO P ops b = List.range' 0 ops.toList.length) (hp : Jbb P ops b (List.range' 0 ops.toList.length) = true) (hg : ops.toList.map (Ja5 ops) = gs)
  (h : ∀ K : Fr → St → Prop, (∀ fr' st', DoK P rd k fr' st' Q → K fr' st') →
   OkS P b st.ctr gs ops.toList 0 fr { ctr := st.ctr + ops.size, box := st.box } [(ops.size, { ctr := st.ctr + ops.size, box := st.box })] fun fr st _ => K fr st) : DoK P rd (.region id ops true :: k) fr st Q := by
 refine Kg_ hb hl hp fun K hK => ?_
 have h1 := h K hK
 unfold OkS at h1
 unfold OkD
 rw [← Jg6, hg]
 exact h1
theorem Kh_ [Memo] {P : Program} {rd : Option Nat} {fr : Fr} {st : St} {Q : AE → Fr → St → Prop} {id : Nat} {ops : Array Oper} {k : List Code} {b : List Nat} {gs : List (Option (Option Nat × Bool))} (h : ∀ K : Fr → St → Prop, (∀ fr' st', DoK P rd k fr' st' Q → K fr' st') →
   OkS P b st.ctr gs ops.toList 0 fr { ctr := st.ctr + ops.size, box := st.box } [(ops.size, { ctr := st.ctr + ops.size, box := st.box })] fun fr st _ => K fr st) (hb : QS ops = b := by kernel_rfl) (hl : JcO P ops b = List.range' 0 ops.toList.length := by kernel_rfl) (hp : Jbb P ops b (List.range' 0 ops.toList.length) = true := by kernel_rfl) (hg : ops.toList.map (Ja5 ops) = gs := by kernel_rfl) : DoK P rd (.region id ops true :: k) fr st Q := Kd_ hb hl hp hg h
end Go.Vm
namespace Go.Vm
open Go
def Rz (z : Nat) (css : List (List V)) : Prop := ∀ c ∈ css, c.length = z
theorem Rz.nil {z : Nat} : Rz z [] := fun _ h => by cases h
theorem Rz.cons {z : Nat} {c : List V} {css : List (List V)} (h : c.length = z) (hr : Rz z css) : Rz z (c :: css) := fun d hd => by
 cases hd with
 | head => exact h
 | tail _ hd => exact hr d hd
theorem Rz.app {z : Nat} {a b : List (List V)} (ha : Rz z a) (hb : Rz z b) : Rz z (a ++ b) := fun c hc => by
 rcases List.mem_append.1 hc with h | h
 ·exact ha c h
 ·exact hb c h
theorem Rz.drop {z : Nat} {a : List (List V)} (ha : Rz z a) (n : Nat) : Rz z (a.drop n) := fun c hc => ha c (List.mem_of_mem_drop hc)
theorem Rz.take {z : Nat} {a : List (List V)} (ha : Rz z a) (n : Nat) : Rz z (a.take n) := fun c hc => ha c (List.mem_of_mem_take hc)
theorem Rz.len {z : Nat} : ∀ {css : List (List V)}, Rz z css → css.flatten.length = css.length * z
 | [], _ => by simp
 | c :: css, h => by
  have h1 := Rz.len (css := css) fun d hd => h d (List.mem_cons_of_mem _ hd)
  have h2 := h c (by simp)
  rw [List.flatten_cons, List.length_append, h1, h2, List.length_cons, Nat.succ_mul, Nat.add_comm]
theorem Rz.fdrop {z : Nat} : ∀ {css : List (List V)} (_ : Rz z css) (i : Nat), css.flatten.drop (i * z) = (css.drop i).flatten
 | css, _, 0 => by simp
 | [], _, i + 1 => by simp
 | c :: css, h, i + 1 => by
  have h2 : c.length = z := h c (by simp)
  have h1 := Rz.fdrop (css := css) (fun d hd => h d (List.mem_cons_of_mem _ hd)) i
  rw [List.flatten_cons, Nat.succ_mul, Nat.add_comm, ← List.drop_drop, show (c ++ css.flatten).drop z = css.flatten from by rw [← h2]; simp, h1]
  rfl
theorem Rz.ftake {z : Nat} {css : List (List V)} (h : Rz z css) (i : Nat) : css.flatten.take (i * z) = (css.take i).flatten := by
 have h1 := List.take_append_drop i css
 have h2 : css.flatten = (css.take i).flatten ++ (css.drop i).flatten := by rw [← List.flatten_append, h1]
 by_cases hi : i ≤ css.length
 ·have h3 := (h.take i).len
  rw [List.length_take, Nat.min_eq_left hi] at h3
  rw [h2, List.take_append_of_le_length (by omega), List.take_of_length_le (by omega)]
 ·rw [List.take_of_length_le (l := css) (by omega), List.take_of_length_le]
  rw [h.len]; exact Nat.mul_le_mul_right z (by omega)
theorem Rz.fsub {z : Nat} {css : List (List V)} (h : Rz z css) (lo n : Nat) : sub css.flatten (lo * z) (n * z) = ((css.drop lo).take n).flatten := by
 rw [sub, h.fdrop, (h.drop lo).ftake]
theorem Rz.at {z : Nat} {css : List (List V)} (h : Rz z css) {i : Nat} (hi : i < css.length) : sub css.flatten (i * z) z = css[i] := by
 have := h.fsub i 1
 rw [Nat.one_mul] at this
 rw [this, List.drop_eq_getElem_cons hi, List.take_succ_cons, List.take_zero, List.flatten_cons, List.flatten_nil, List.append_nil]
inductive Sv (z : Nat) (st : St) : V → List (List V) → Prop
 | nils : Sv z st .nils []
 | sl (css : List (List V)) (ex : Bool) (hz : Rz z css) : Sv z st (.sl css.length css.flatten ex) css
 | ms (id off : Nat) (cap : Option Nat) (cs : List V) (e : TypeId) (fl : Bool) (fz : Option Nat) (css : List (List V)) (hz : Rz z css) (hb : st.box.get id = some (.cells cs e fl fz)) (hs : sub cs off (css.length * z) = css.flatten)
   (hlt : off + css.length * z ≤ cs.length) (hid : id < st.ctr) (hcap : Jdy css.length css.length cap = true) : Sv z st (.ms id off css.length z cap) css
theorem Sv.rz {z : Nat} {st : St} {x : V} {css : List (List V)} (h : Sv z st x css) : Rz z css := by
 cases h with
 | nils => exact .nil
 | sl _ ex hz => exact hz
 | ms _ _ _ _ _ _ _ _ hz => exact hz
theorem Sv.keep {z : Nat} {st st' : St} {x : V} {css : List (List V)} (h : Sv z st x css) (k : Keep st st') : Sv z st' x css := by
 cases h with
 | nils => exact .nils
 | sl css ex hz => exact .sl css ex hz
 | ms id off cap cs e fl fz css hz hb hs hlt hid hcap => exact .ms id off cap cs e fl fz css hz (by rw [k.box id hid]; exact hb) hs hlt (Nat.lt_of_lt_of_le hid k.ctr) hcap
theorem Sv.one {z : Nat} {st : St} {x : V} {css : List (List V)} (h : Sv z st x css) : Qn x = true := by cases h <;> rfl
variable {P : Program} {T e : TypeId} {z : Nat} {st : St} {x : V} {css : List (List V)}
theorem Sv.len (h : Sv z st x css) (hT : P.underlying T = some (.slice e)) : Jab P T x = some (.int .i64 (css.length : Int)) := by cases h <;> simp [Jab, hT]
theorem Sv.ix (h : Sv z st x css) (hT : P.underlying T = some (.slice e)) (he : Qj P e = some z) {k : IntKind} {a : Int} (h0 : 0 ≤ a) (h1 : a < (css.length : Int)) : Jo P T x (.int k a) = some (adr z x a.toNat) := by
 have h2 := JeI (k := k) h0
 have hb : Nat.blt a.toNat css.length = true := by rw [JbD]; exact decide_eq_true (by omega)
 cases h with
 | nils => simp at h1; omega
 | sl css ex hz => simp only [Jo, hT, h2, he, hb, adr]
 | ms id off cap cs e' fl fz css hz hbx hs hlt hid hcap => simp only [Jo, hT, h2, he, hb, adr, Nat.beq_refl]
theorem Sv.get (h : Sv z st x css) {i : Nat} (hi : i < css.length) {t : TypeId} {j m : Nat} (hj : j + m ≤ z) (ha : Jag P t = some true) (ht : Qj P t = some m) :
  (∀ cs, adr z x i = .cp cs → Qe P st t (.cp (cs.drop j)) = some (.agg (sub css[i] j m))) ∧ ∀ id off, adr z x i = .ptr id off → Qe P st t (.ptr id (off + j)) = some (.agg (sub css[i] j m)) := by
 have hci := h.rz.at hi
 have hl : css[i].length = z := h.rz _ (List.getElem_mem hi)
 have hm : i * z + z ≤ css.length * z := by
  have := Nat.mul_le_mul_right z (show i + 1 ≤ css.length by omega)
  rwa [Nat.succ_mul] at this
 have hfl := h.rz.len
 have key : ∀ l : List V, sub l (i * z) z = css[i] → sub l (i * z + j) m = sub css[i] j m := fun l hh => by
  rw [← hh]; unfold sub
  rw [← List.drop_drop, List.drop_take, List.take_take, Nat.min_eq_left (by omega)]
 cases h with
 | nils => simp at hi
 | sl css ex hz =>
  refine ⟨fun cs hc => ?_, fun id off hc => by cases hc⟩
  simp only [adr, V.cp.injEq] at hc
  subst hc
  have hb : Nat.ble (0 + m) ((css.flatten.drop (i * z)).drop j).length = true := Nat.ble_eq_true_of_le (by simp only [List.length_drop]; omega)
  simp only [Qe, Jbp, ha, ht, hb]
  rw [show sub ((css.flatten.drop (i * z)).drop j) 0 m = sub css.flatten (i * z + j) m from by unfold sub; rw [List.drop_zero, List.drop_drop], key _ hci]
 | ms id off cap cs e' fl fz css hz hbx hs hlt hid hcap =>
  refine ⟨fun cs hc => by (cases hc), fun id' off' hc => ?_⟩
  simp only [adr, V.ptr.injEq] at hc
  obtain ⟨rfl, rfl⟩ := hc
  have hb : Nat.ble (off + i * z + j + m) cs.length = true := Nat.ble_eq_true_of_le (by omega)
  simp only [Qe, hbx, Jbp, ha, ht, hb]
  have h3 : sub cs (off + i * z) z = css[i] := by
   rw [← hs] at hci
   rw [← hci]; unfold sub
   rw [List.drop_take, List.take_take, List.drop_drop, Nat.min_eq_left (by omega)]
  rw [← h3]; unfold sub
  rw [List.drop_take, List.take_take, List.drop_drop, Nat.min_eq_left (by omega)]
theorem Sv.adr_or (h : Sv z st x css) {i : Nat} (hi : i < css.length) : (∃ cs, adr z x i = .cp cs) ∨ ∃ id off, adr z x i = .ptr id off := by
 cases h with
 | nils => simp at hi
 | sl css ex hz => exact .inl ⟨_, rfl⟩
 | ms id off => exact .inr ⟨_, _, rfl⟩
theorem Sv.ld (h : Sv z st x css) (he : Qj P e = some z) (ha : Jag P e = some true) {i : Nat} (hi : i < css.length) : Qe P st e (adr z x i) = some (.agg css[i]) := by
 obtain ⟨h1, h2⟩ := h.get (P := P) hi (t := e) (j := 0) (m := z) (by omega) ha he
 have hl : css[i].length = z := h.rz _ (List.getElem_mem hi)
 have hs : sub css[i] 0 z = css[i] := by unfold sub; rw [List.drop_zero, List.take_of_length_le (by omega)]
 rw [hs] at h1 h2
 rcases h.adr_or hi with ⟨cs, hc⟩ | ⟨id, off, hc⟩
 ·have := h1 cs hc
  rw [List.drop_zero] at this
  rw [hc]; exact this
 ·have := h2 id off hc
  rw [hc]; exact this
theorem Sv.src (h : Sv z st x css) : Jad st z x = some (css.flatten, css.length) := by
 have hfl := h.rz.len
 cases h with
 | nils => rfl
 | sl css ex hz => simp only [Jad, JP, hfl, Nat.beq_refl]
 | ms id off cap cs e' fl fz css hz hbx hs hlt hid hcap =>
  have hb : Nat.ble (off + css.length * z) cs.length = true := Nat.ble_eq_true_of_le hlt
  simp only [Jad, JP, hbx, hb, hs]
theorem Sv.cells (h : Sv z st x css) : JP st z x = some (css.flatten, css.length) := by
 have := h.src
 cases h <;> exact this
inductive Mz (z lo : Nat) (e : TypeId) (st : St) : V → List (List V) → Prop
 | nils : Mz z lo e st .nils []
 | ms (id : Nat) (cap : Option Nat) (cs : List V) (fl : Bool) (css : List (List V)) (hz : Rz z css) (hlo : lo ≤ id) (hid : id < st.ctr) (hb : st.box.get id = some (.cells cs e fl (some 0))) (hs : cs.take (css.length * z) = css.flatten) (hn : css.length * z ≤ cs.length) (hcap : ∀ c, cap = some c → css.length ≤ c ∧ c * z ≤ cs.length) :
   Mz z lo e st (.ms id 0 css.length z cap) css
theorem Mz.sv {lo : Nat} (h : Mz z lo e st x css) : Sv z st x css := by
 cases h with
 | nils => exact .nils
 | ms id cap cs fl css hz hlo hid hb hs hn hcap =>
  refine .ms id 0 cap cs e fl (some 0) css hz hb (by rw [sub, List.drop_zero, hs]) (by omega) hid ?_
  cases cap with
  | none => exact JbL _
  | some c => exact Nat.ble_eq_true_of_le (hcap c rfl).1
theorem Mz.keep {lo : Nat} {st' : St} (h : Mz z lo e st x css) (k : Keep st st') : Mz z lo e st' x css := by
 cases h with
 | nils => exact .nils
 | ms id cap cs fl css hz hlo hid hb hs hn hcap => exact .ms id cap cs fl css hz hlo (Nat.lt_of_lt_of_le hid k.ctr) (by rw [k.box id hid]; exact hb) hs hn hcap
theorem Mz.low {lo lo' : Nat} (h : Mz z lo e st x css) (hl : lo' ≤ lo) : Mz z lo' e st x css := by
 cases h with
 | nils => exact .nils
 | ms id cap cs fl css hz hlo hid hb hs hn hcap => exact .ms id cap cs fl css hz (Nat.le_trans hl hlo) hid hb hs hn hcap
theorem Mz.stab {lo : Nat} {st' : St} (h : Mz z lo e st x css) (hc : st.ctr ≤ st'.ctr) (hb : ∀ i, vid x i → st'.box.get i = st.box.get i) : Mz z lo e st' x css := by
 cases h with
 | nils => exact .nils
 | ms id cap cs fl css hz hlo hid hbx hs hn hcap => exact .ms id cap cs fl css hz hlo (Nat.lt_of_lt_of_le hid hc) (by rw [hb id rfl]; exact hbx) hs hn hcap
theorem Mz.vid_lt {lo : Nat} (h : Mz z lo e st x css) {i : Nat} (hi : vid x i) : lo ≤ i ∧ i < st.ctr := by
 cases h with
 | nils => cases hi
 | ms id cap cs fl css hz hlo hid hb hs hn hcap => obtain rfl : i = id := hi; exact ⟨hlo, hid⟩
theorem Mz.push {i : TypeInfo} {zv s : V} {m : List (List V)} {lo : Nat} (h : Mz z lo e st x css) (hT : P.underlying T = some (.slice e)) (hi : P.info? e = some i) (hs : i.size = z) (h0 : Nat.beq z 0 = false) (hzv : Jat P e = some zv) (hzc : zv.cells.length = z)
  (hm : Sv z st s m) (hone : m.flatten.all Qn = true) (hlo : lo ≤ st.ctr) (hb1 : (css.length + m.length) * i.bytes ≤ JA) (hb2 : css.length + m.length ≤ JA) :
  ∃ y st', QE P st T x s = some (y, st') ∧ Low lo st st' ∧ Mz z lo e st' y (css ++ m) ∧ (∀ i, vid y i → vid x i ∨ st.ctr ≤ i) ∧ ∀ i, i < st.ctr → ¬ vid x i → st'.box.get i = st.box.get i := by
 have hsrc := hm.src
 have hmz := hm.rz
 have hfm := hmz.len
 by_cases hme : m.length = 0
 ·obtain rfl := List.length_eq_zero_iff.1 hme
  refine ⟨x, st, ?_, .refl _ _, by rw [List.append_nil]; exact h, fun i hi => .inl hi, fun _ _ _ => rfl⟩
  have hc := h.sv.cells
  simp only [QE, hT, hi, hs, h0, hzv, hsrc, hc]; rfl
 ·have hmb : Nat.beq m.length 0 = false := by rw [Jfx]; exact decide_eq_false hme
  have q1 : Nat.ble ((css.length + m.length) * i.bytes) JA = true := Nat.ble_eq_true_of_le hb1
  have q2 : Nat.ble (css.length + m.length) JA = true := Nat.ble_eq_true_of_le hb2
  have q3 : Nat.beq zv.cells.length z = true := by rw [hzc, Nat.beq_refl]
  have hxc := h.sv.cells
  have hxz := h.sv.rz
  have hxm := hxz.app hmz
  have hfx := hxz.len
  have hlm : (css ++ m).length = css.length + m.length := List.length_append
  have hmul : (css.length + m.length) * z = css.length * z + m.length * z := Nat.add_mul ..
  have knew : ∀ (cs : List V) (b : Tr Bx), (∀ id, id < lo → b.get id = st.box.get id) → Low lo st { ctr := st.ctr + 1, box := b.put st.ctr (.cells cs e false (some 0)) } := fun cs b hbx => ⟨Nat.le_succ _, fun id hid => by
   show (b.put st.ctr _).get id = _
   rw [Tr.get_put, if_neg (by omega)]; exact hbx id hid⟩
  have mnew : ∀ (b : Tr Bx), Mz z lo e { ctr := st.ctr + 1, box := b.put st.ctr (.cells (css.flatten ++ m.flatten) e false (some 0)) } (.ms st.ctr 0 (css.length + m.length) z none) (css ++ m) := fun b => by
   have := Mz.ms (z := z) (lo := lo) (e := e) (st := { ctr := st.ctr + 1, box := b.put st.ctr (.cells (css.flatten ++ m.flatten) e false (some 0)) }) st.ctr none (css.flatten ++ m.flatten) false (css ++ m) hxm hlo (Nat.lt_succ_self _) (by show (b.put st.ctr _).get _ = _; rw [Tr.get_put, if_pos rfl]) (by rw [hlm, hmul, List.flatten_append, List.take_of_length_le (by rw [List.length_append]; omega)]) (by rw [hlm, hmul, List.length_append]; omega) (fun c hc => by cases hc)
   rwa [hlm] at this
  cases h with
  | nils =>
   refine ⟨.ms st.ctr 0 ([].length + m.length) z none, { ctr := st.ctr + 1, box := st.box.put st.ctr (.cells ([] ++ m.flatten) e false (some 0)) }, ?_, knew _ _ fun _ _ => rfl, mnew _, fun i hi => .inr (Nat.le_of_eq (show i = st.ctr from hi).symm), fun i hi _ => by show (st.box.put st.ctr _).get i = _; rw [Tr.get_put, if_neg (by omega)]⟩
   simp only [QE, hT, hi, hs, h0, hzv, hsrc, JP, hmb, q3, hone]
   rw [show Nat.ble ((0 + m.length) * i.bytes) JA = true from q1, show Nat.ble (0 + m.length) JA = true from q2]
   simp
  | ms id cap cs fl css hz hlo' hid hb hs' hn hcap =>
   have h1 : Nat.ble (0 + css.length * z) cs.length = true := Nat.ble_eq_true_of_le (by omega)
   have hgen : ∀ y st', (match Jam cs.length 0 css.length m.length z cap with
     | .here => (match Nat.ble (0 + (css.length + m.length) * z) cs.length && Jb6 (some 0) (0 + css.length * z) with
      | true => some (V.ms id 0 (css.length + m.length) z cap, { st with box := st.box.put id (.cells (over cs (0 + css.length * z) m.flatten) e fl (some 0)) })
      | false => none)
     | .fresh => some (V.ms st.ctr 0 (css.length + m.length) z none, { ctr := st.ctr + 1, box := st.box.put st.ctr (.cells (css.flatten ++ m.flatten) e false (some 0)) })
     | .gone => (match Jb6 (some 0) (0 + css.length * z) && Nat.beq e e with
      | true => some (V.ms st.ctr 0 (css.length + m.length) z none, { ctr := st.ctr + 1, box := (st.box.del id).put st.ctr (.cells (css.flatten ++ m.flatten) e false (Jhf (some 0) 0)) })
      | false => none)) = some (y, st') → QE P st T (.ms id 0 css.length z cap) s = some (y, st') := fun y st' hh => by
    have hxc' : JP st z (.ms id 0 css.length z cap) = some (css.flatten, css.length) := hxc
    simp only [QE, hT, hi, hs, h0, hzv, hsrc, hxc', hb, hmb, q1, q2, q3, hone, Bool.and_self, Nat.beq_refl]
    rw [Nat.beq_refl] at hh
    exact hh
   have hfz : Jb6 (some 0) (0 + css.length * z) = true := Nat.ble_eq_true_of_le (Nat.zero_le _)
   have hee : Nat.beq e e = true := Nat.beq_refl e
   have here : (css.length + m.length) * z ≤ cs.length → (∀ c, cap = some c → css.length + m.length ≤ c) → (match Nat.ble (0 + (css.length + m.length) * z) cs.length && Jb6 (some 0) (0 + css.length * z) with
      | true => some (V.ms id 0 (css.length + m.length) z cap, ({ st with box := st.box.put id (.cells (over cs (0 + css.length * z) m.flatten) e fl (some 0)) } : St))
      | false => none) = some (V.ms id 0 (css.length + m.length) z cap, { st with box := st.box.put id (.cells (over cs (css.length * z) m.flatten) e fl (some 0)) }) ∧
     Low lo st { st with box := st.box.put id (.cells (over cs (css.length * z) m.flatten) e fl (some 0)) } ∧ Mz z lo e { st with box := st.box.put id (.cells (over cs (css.length * z) m.flatten) e fl (some 0)) } (.ms id 0 (css.length + m.length) z cap) (css ++ m) := fun hle hc => by
    have h2 : Nat.ble (0 + (css.length + m.length) * z) cs.length = true := Nat.ble_eq_true_of_le (by omega)
    refine ⟨by rw [h2, hfz, show 0 + css.length * z = css.length * z from by omega]; rfl, ⟨Nat.le_refl _, fun i hi => by show (st.box.put id _).get i = _; rw [Tr.get_put, if_neg (by omega)]⟩, ?_⟩
    have hol := Jd6 cs m.flatten (css.length * z) (by rw [hfm]; omega)
    have := Mz.ms (z := z) (lo := lo) (e := e) (st := { st with box := st.box.put id (.cells (over cs (css.length * z) m.flatten) e fl (some 0)) }) id cap (over cs (css.length * z) m.flatten) fl (css ++ m) hxm hlo' hid (by show (st.box.put id _).get _ = _; rw [Tr.get_put, if_pos rfl]) (by rw [hlm, hmul, ← hfm, Jg5 _ _ _ (by omega), hs', List.flatten_append]) (by rw [hol, hlm]; exact hle) (fun c hc' => by rw [hol, hlm]; exact ⟨hc c hc', (hcap c hc').2⟩)
    rwa [hlm] at this
   cases cap with
   | some c =>
    by_cases hc : css.length + m.length ≤ c
    ·have hcz : (css.length + m.length) * z ≤ cs.length := Nat.le_trans (Nat.mul_le_mul_right z hc) (hcap c rfl).2
     obtain ⟨a1, a2, a3⟩ := here hcz (fun c' hc' => by cases hc'; exact hc)
     refine ⟨_, _, hgen _ _ ?_, a2, a3, fun i hi => .inl hi, fun i hi hn => by show (st.box.put id _).get i = _; rw [Tr.get_put, if_neg (show ¬ i = id from hn)]⟩
     rw [show Jam cs.length 0 css.length m.length z (some c) = .here from by simp only [Jam, Nat.ble_eq_true_of_le hc]]
     exact a1
    ·refine ⟨_, _, hgen (.ms st.ctr 0 (css.length + m.length) z none) { ctr := st.ctr + 1, box := st.box.put st.ctr (.cells (css.flatten ++ m.flatten) e false (some 0)) } ?_, knew _ _ fun _ _ => rfl, mnew _, fun i hi => .inr (Nat.le_of_eq (show i = st.ctr from hi).symm), fun i hi _ => by show (st.box.put st.ctr _).get i = _; rw [Tr.get_put, if_neg (by omega)]⟩
     have hcb : Nat.ble (css.length + m.length) c = false := by
      cases hx : Nat.ble (css.length + m.length) c with
      | false => rfl
      | true => exact absurd (Nat.le_of_ble_eq_true hx) hc
     rw [show Jam cs.length 0 css.length m.length z (some c) = .fresh from by simp only [Jam, hcb]]
   | none =>
    by_cases hc : (css.length + m.length) * z ≤ cs.length
    ·obtain ⟨a1, a2, a3⟩ := here hc (fun c' hc' => by cases hc')
     refine ⟨_, _, hgen _ _ ?_, a2, a3, fun i hi => .inl hi, fun i hi hn => by show (st.box.put id _).get i = _; rw [Tr.get_put, if_neg (show ¬ i = id from hn)]⟩
     rw [show Jam cs.length 0 css.length m.length z none = .here from by simp only [Jam, Nat.ble_eq_true_of_le (show 0 + (css.length + m.length) * z ≤ cs.length by omega)]]
     exact a1
    ·refine ⟨_, _, hgen (.ms st.ctr 0 (css.length + m.length) z none) { ctr := st.ctr + 1, box := (st.box.del id).put st.ctr (.cells (css.flatten ++ m.flatten) e false (some 0)) } ?_, knew _ _ fun i hi => by rw [Tr.get_del, if_neg (by omega)], mnew _, fun i hi => .inr (Nat.le_of_eq (show i = st.ctr from hi).symm), fun i hi hn => by show ((st.box.del id).put st.ctr _).get i = _; rw [Tr.get_put, if_neg (by omega), Tr.get_del, if_neg (show ¬ i = id from hn)]⟩
     have hcb : Nat.ble (0 + (css.length + m.length) * z) cs.length = false := by
      cases hx : Nat.ble (0 + (css.length + m.length) * z) cs.length with
      | false => rfl
      | true => exact absurd (Nat.le_of_ble_eq_true hx) (by omega)
     rw [show Jam cs.length 0 css.length m.length z none = .gone from by simp only [Jam, hcb]]
     simp only [hfz, hee, Bool.and_self]
     rfl
theorem Mz.put {lo i : Nat} (h : Mz z lo e st x css) (he : Qj P e = some z) (hi : i < css.length) {v : V} (hv : v.cells.length = z) (hone : v.cells.all Qn = true) :
  ∃ st', Q0 P st e (adr z x i) v = some st' ∧ Low lo st st' ∧ Mz z lo e st' x (css.set i v.cells) ∧ ∀ j, ¬ vid x j → st'.box.get j = st.box.get j := by
 cases h with
 | nils => simp at hi
 | ms id cap cs fl css hz hlo hid hb hs hn hcap =>
  have hm : i * z + z ≤ css.length * z := by
   have := Nat.mul_le_mul_right z (show i + 1 ≤ css.length by omega)
   rwa [Nat.succ_mul] at this
  have h1 : Nat.beq v.cells.length z = true := by rw [hv, Nat.beq_refl]
  have h2 : Nat.ble (0 + i * z + z) cs.length = true := Nat.ble_eq_true_of_le (by omega)
  have h3 : Jb6 (some 0) (0 + i * z) = true := Nat.ble_eq_true_of_le (Nat.zero_le _)
  have hol := Jd6 cs v.cells (i * z) (by omega)
  have hz' : Rz z (css.set i v.cells) := fun c hc => by
   rcases List.mem_or_eq_of_mem_set hc with h | h
   ·exact hz c h
   ·rw [h]; exact hv
  refine ⟨{ st with box := st.box.put id (.cells (over cs (i * z) v.cells) e fl (some 0)) }, ?_, ⟨Nat.le_refl _, fun j hj => by show (st.box.put id _).get j = _; rw [Tr.get_put, if_neg (by omega)]⟩, ?_, fun j hj => by show (st.box.put id _).get j = _; rw [Tr.get_put, if_neg (show ¬ j = id from hj)]⟩
  ·simp only [adr, Q0, he, hb, h1, h2, h3, hone, Bool.and_self]
   rw [Nat.zero_add]
  ·have := Mz.ms (z := z) (lo := lo) (e := e) (st := { st with box := st.box.put id (.cells (over cs (i * z) v.cells) e fl (some 0)) }) id cap (over cs (i * z) v.cells) fl (css.set i v.cells) hz' hlo hid (by show (st.box.put id _).get _ = _; rw [Tr.get_put, if_pos rfl]) ?_ (by rw [hol, List.length_set]; exact hn) (fun c hc => by rw [hol, List.length_set]; exact hcap c hc)
   ·rwa [List.length_set] at this
   ·rw [List.length_set]
    have e1 : (css.set i v.cells).flatten = (css.take i).flatten ++ (v.cells ++ (css.drop (i + 1)).flatten) := by
     rw [List.set_eq_take_append_cons_drop, if_pos hi, List.flatten_append, List.flatten_cons]
    have e2 : (css.take i).flatten = cs.take (i * z) := by
     rw [← hz.ftake, ← hs, List.take_take, Nat.min_eq_left (by omega)]
    have e3 : (css.drop (i + 1)).flatten = (cs.take (css.length * z)).drop ((i + 1) * z) := by rw [hs, hz.fdrop]
    rw [e1, e2, e3, over, hv, Nat.succ_mul]
    have l1 : (cs.take (i * z)).length = i * z := by rw [List.length_take]; omega
    rw [List.append_assoc, List.take_append, l1, List.take_of_length_le (l := cs.take (i * z)) (by rw [l1]; omega), List.take_append, hv, List.take_of_length_le (l := v.cells) (by rw [hv]; omega), List.drop_take]
    rw [show css.length * z - i * z - z = css.length * z - (i * z + z) by omega]
end Go.Vm
namespace Go.Vm
open Go
variable {P : Program}
theorem Q5 {s d : TypeId} {j k : IntKind} (hs : P.underlying s = some (.int j)) (hd : P.underlying d = some (.int k)) {st : St} {a : Int} : QJ P st s d (.int j a) = some (.int k (k.wrap a)) := by
 have h : QJ P st s d (.int j a) = QQ P (fun l => convert s d (l.getD 0 undef)) [.int j a] := by
  simp only [QJ, hs, hd]
 rw [h]
 simp only [QQ, Jd, ofV]
 have h2 : Q2 P (convert s d (.int j a)) = some (.int k (k.wrap a)) := by
  simp only [convert, Jay, QP hs, QP hd, Option.bind_some]
  rfl
 show (match Q2 P (convert s d (.int j a)) with
  | some v => toV 6 v
  | none => none) = _
 rw [h2]
 rfl
theorem Jd7 {a : Int} (h : 0 ≤ a) (h2 : a < 18446744073709551616) : IntKind.u64.wrap a = a := by
 simp [IntKind.wrap, IntKind.bits, IntKind.signed]; omega
theorem Jbk {a : Int} (h : 0 ≤ a) (h2 : a < 4294967296) : IntKind.u32.wrap a = a := by
 simp [IntKind.wrap, IntKind.bits, IntKind.signed]; omega
theorem Ja6 {a : Int} (h : 0 ≤ a) (h2 : a < 256) : IntKind.u8.wrap a = a := by
 simp [IntKind.wrap, IntKind.bits, IntKind.signed]; omega
theorem JeK {kk : Bool} {T : TypeId} {k : IntKind} (n c : Nat) (hc : c ≤ k.bits) : Jn P kk .shr T (.int k (n : Int)) (.int .u64 (c : Int)) = some (.int k ((n / 2 ^ c : Nat) : Int)) := by
 have h : Jn P kk .shr T (.int k (n : Int)) (.int .u64 (c : Int)) = QQ P (fun l => binOp .shr T (l.getD 0 undef) (l.getD 1 undef)) [.int k (n : Int), .int .u64 (c : Int)] := by
  simp only [Jn]
  split
  ·rfl
  ·rfl
 rw [h]
 have h2 : Q2 P (binOp .shr T (.int k (n : Int)) (.int .u64 (c : Int))) = some (.int k ((n : Int).fdiv (2 ^ (min c k.bits)))) := rfl
 simp only [QQ, Jd, ofV]
 show (match Q2 P (binOp .shr T (.int k (n : Int)) (.int .u64 (c : Int))) with
  | some v => toV 6 v
  | none => none) = _
 have h3 : (n : Int).fdiv (2 ^ (min c k.bits)) = ((n / 2 ^ c : Nat) : Int) := by
  rw [Nat.min_eq_left hc, Int.fdiv_eq_ediv_of_nonneg _ (Int.le_of_lt (Int.pow_pos (by decide)))]
  simp
 rw [h2, h3]
 rfl
end Go.Vm
namespace Go.Vm
open Go
abbrev GOp := Option (Option Nat × Bool)
def QH (P : Program) (ih : CallF) (b : List Nat) (c0 : Nat) : List (Nat × GOp × Oper) → Drw → Option Drw
 | [], d => some d
 | (i, g, o) :: r, d => match Qp d.fr g with
  | false => QH P ih b c0 r { fr := Fr.to d.fr o.dst .undef, st := d.st, snaps := (match Js P o.op with | .e => (i, d.st) :: d.snaps | _ => d.snaps) }
  | true =>
   match Js P o.op with
   | .p => match JB P d.fr d.st o.op with
    | some v => QH P ih b c0 r { d with fr := Fr.to d.fr o.dst v }
    | none => none
   | .r => match d.snaps with
    | (_, s0) :: _ => match JB P d.fr s0 o.op with
     | some v => match JM P d.fr o.op v (b.getD i 0) d.snaps with
      | true => QH P ih b c0 r { d with fr := Fr.to d.fr o.dst v }
      | false => none
     | none => none
    | [] => none
   | .a => match JK P d.fr o.op with
    | some (cs, e, n) => match cs.all Qn with
     | true => QH P ih b c0 r { fr := Fr.to d.fr o.dst (Qq (c0 + i) n), st := { d.st with box := d.st.box.put (c0 + i) (.cells cs e true (some 0)) }, snaps := d.snaps }
     | false => none
    | none => none
   | .e => match Qk P ih d.fr d.st o.op with
    | .val v st' => QH P ih b c0 r { fr := Fr.to d.fr o.dst v, st := st', snaps := (i, st') :: d.snaps }
    | _ => none
theorem Jf1 {P : Program} {ih : CallF} {b : List Nat} {c0 : Nat} : ∀ (A B : List (Nat × GOp × Oper)) (d : Drw), QH P ih b c0 (A ++ B) d = match QH P ih b c0 A d with
  | some d' => QH P ih b c0 B d'
  | none => none
 | [], B, d => rfl
 | (i, g, o) :: A, B, d => by
  have ih' := fun d => Jf1 (P := P) (ih := ih) (b := b) (c0 := c0) A B d
  simp only [List.cons_append, QH]
  cases Qp d.fr g with
  | false => exact ih' _
  | true =>
   simp only
   cases Js P o.op with
   | p =>
    simp only
    cases JB P d.fr d.st o.op with
    | none => rfl
    | some v => exact ih' _
   | r =>
    simp only
    cases hs : d.snaps with
    | nil => rfl
    | cons s sn =>
     simp only
     cases JB P d.fr s.2 o.op with
     | none => rfl
     | some v =>
      simp only
      cases JM P d.fr o.op v (b.getD i 0) (s :: sn) with
      | true => exact ih' _
      | false => rfl
   | a =>
    simp only
    cases JK P d.fr o.op with
    | none => rfl
    | some v =>
     simp only
     cases v.1.all Qn with
     | true => exact ih' _
     | false => rfl
   | e =>
    simp only
    cases Qk P ih d.fr d.st o.op with
    | val v st' => exact ih' _
    | panic v st' => rfl
    | fail w => rfl
def Jb2 : Nat → List GOp → List Oper → List (Nat × GOp × Oper)
 | i, g :: gs, o :: r => (i, g, o) :: Jb2 (i + 1) gs r
 | _, _, _ => []
theorem Jfb {P : Program} {ih : CallF} {ops : Array Oper} {b : List Nat} {c0 : Nat} : ∀ (l : List Oper) (i : Nat) (d : Drw), JI P ih ops b c0 l i d = QH P ih b c0 (Jb2 i (l.map (Ja5 ops)) l) d
 | [], i, d => rfl
 | o :: r, i, d => by
  have ih' := fun d => Jfb (P := P) (ih := ih) (ops := ops) (b := b) (c0 := c0) r (i + 1) d
  simp only [JI, List.map_cons, Jb2, QH, Jf0, ih'] <;> rfl
def Jac (gs : List GOp) (l : List Oper) : List (Nat × Nat) → List (Nat × GOp × Oper)
 | [] => []
 | (a, n) :: rs => Jb2 a ((gs.drop a).take n) ((l.drop a).take n) ++ Jac gs l rs
theorem Jfc {P : Program} {ih : CallF} {ops : Array Oper} {b : List Nat} {c0 : Nat} : ∀ (rs : List (Nat × Nat)) (d : Drw), (rs.all fun r => Nat.ble (r.1 + r.2) ops.toList.length) = true → QM P ih ops b c0 (Jb1 rs) d = QH P ih b c0 (Jac (ops.toList.map (Ja5 ops)) ops.toList rs) d
 | [], d, _ => rfl
 | (a, n) :: rs, d, h => by
  simp only [List.all_cons, Bool.and_eq_true] at h
  have h1 := Nat.le_of_ble_eq_true h.1
  have ih' := fun d => Jfc (P := P) (ih := ih) (b := b) (c0 := c0) rs d h.2
  rw [show Jb1 ((a, n) :: rs) = List.range' a n ++ Jb1 rs from rfl, JeJ, Jfa a n h1, Jac, Jf1, Jfb, ← List.map_drop, ← List.map_take]
  cases QH P ih b c0 (Jb2 a (((ops.toList.drop a).take n).map (Ja5 ops)) ((ops.toList.drop a).take n)) d with
  | none => rfl
  | some d' => exact ih' d'
def OkP [Memo] (P : Program) (b : List Nat) (c0 : Nat) (L : List (Nat × GOp × Oper)) (fr : Fr) (st : St) (sn : List (Nat × St)) (K : Fr → St → Prop) : Prop :=
 match QH P (ihCall (W P)) b c0 L { fr := fr, st := st, snaps := sn } with
 | some d => K d.fr d.st
 | none => False
theorem DoK.drawP [Memo] {P : Program} {rd : Option Nat} {fr : Fr} {st : St} {Q : AE → Fr → St → Prop} {id : Nat} {ops : Array Oper} {k : List Code} {b : List Nat} {rs : List (Nat × Nat)} {gs : List GOp} (hb : QS ops = b) (hl : JcO P ops b = Jb1 rs) (hp : Jbb P ops b (Jb1 rs) = true) (hr : (rs.all fun r => Nat.ble (r.1 + r.2) ops.toList.length) = true) (hg : ops.toList.map (Ja5 ops) = gs)
  (h : ∀ K : Fr → St → Prop, (∀ fr' st', DoK P rd k fr' st' Q → K fr' st') →
   OkP P b st.ctr (Jac gs ops.toList rs) fr { ctr := st.ctr + ops.size, box := st.box } [(ops.size, { ctr := st.ctr + ops.size, box := st.box })] K) : DoK P rd (.region id ops true :: k) fr st Q := by
 refine DoK.draw hb hl hp fun K hK => ?_
 rw [Jfc rs _ hr, hg]
 exact h K hK
end Go.Vm
