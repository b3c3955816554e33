/- Rules for walks: a frame as a row of slots, a call's JiN, operations as equations with side conditions (found by omega). -/
import Derived.Test.YtlholbhaajklhaaGreatDoorRz0
import Derived.Test.YtlholbhaajklhaaGreatDoorRz3
namespace Go.Vm
open Go
def Fs (gl : Gl) : List (Nat × V) → Fr → Prop
 | [], fr => fr.ds = [] ∧ fr.gl = gl
 | (k, v) :: r, fr => Fr.at fr k = v ∧ Fs gl r fr
def Sm (st st' : St) : Prop := st' = st
variable {P : Program} {rd : Option Nat} {fr : Fr} {st : St} {Q : AE → Fr → St → Prop}
def Says [Memo] (P : Program) (gl : Gl) (f : Nat) (args : List V) (st : St) (R : V → St → Prop) : Prop := ∃ v st', W P (.call gl f args) st = .call (.val v st') ∧ R v st'
theorem Says.use [Memo] {gl : Gl} {f : Nat} {args : List V} {R : V → St → Prop} (h : Says P gl f args st R) (hk : JR P f = true := by kernel_rfl) : ∃ v st', JaC P (ihCall (W P)) gl f args st = .val v st' ∧ R v st' := by
 obtain ⟨v, st', h1, h2⟩ := h
 exact ⟨v, st', by rw [Jg hk, JZ h1], h2⟩
theorem Says.mono [Memo] {gl : Gl} {f : Nat} {args : List V} {R R' : V → St → Prop} (h : Says P gl f args st R) (k : ∀ v st', R v st' → R' v st') : Says P gl f args st R' := by
 obtain ⟨v, st', h1, h2⟩ := h
 exact ⟨v, st', h1, k _ _ h2⟩
def Jx (P : Program) (fn : Func) (R : V → St → Prop) (e : AE) (fr : Fr) (st : St) : Prop := (e = .ret ∨ e = .normal) ∧ fr.ds = [] ∧ ∃ vs, Jc (Jv P fr st) fn.results.toList = some vs ∧ R (JL vs) st
theorem Jo8 [Memo] {gl : Gl} {f : Nat} {args : List V} {fn : Func} {c : Code} {R : V → St → Prop} (hn : (Memo.look f).run args st = none) (hf : P.funcs[f]? = some fn) (hb : fn.body = some c)
  (hs : (Nat.ble args.length fn.ntmps && JY fn.ntmps c) = true) (h : DoR P none c (Jy gl args) st (Jx P fn R)) : Says P gl f args st R := Jat hn hf hb hs h
theorem JpI [Memo] {ops : Array Oper} (a : List Oper) : ∀ (b : List Oper) (fr : Fr) (st : St), Qn P (ihCall (W P)) rd ops (a ++ b) fr st =
  match Qn P (ihCall (W P)) rd ops a fr st with
  | .ok fr1 st1 => Qn P (ihCall (W P)) rd ops b fr1 st1
  | r => r := by
 induction a with
 | nil => intro b fr st; rfl
 | cons o r ih =>
  intro b fr st
  simp only [List.cons_append, Qn]
  cases Jh ops fr o with
  | false => exact ih ..
  | true =>
   cases Jn o.op with
   | false =>
    cases vop P (ihCall (W P)) fr st o.op with
    | val v st' => exact ih ..
    | panic v st' => rfl
    | fail w => rfl
   | true =>
    generalize Jc8 P fr o.op = d
    cases rd with
    | some r => rfl
    | none => cases d with
     | none => rfl
     | some d => exact ih ..
section
variable {kk : Bool} {T : TypeId} {q : IntKind} {a b : Nat}
theorem Qo : Jd P kk .eql T (.int q (a : Int)) (.int q (b : Int)) = some (.bool (decide (a = b))) := JbE rfl
theorem Qg : Jd P kk .neq T (.int q (a : Int)) (.int q (b : Int)) = some (.bool (!decide (a = b))) := Jdh rfl
theorem Qh : Jd P kk .lss T (.int q (a : Int)) (.int q (b : Int)) = some (.bool (decide (a < b))) := JaZ rfl
theorem Qk : Jd P kk .leq T (.int q (a : Int)) (.int q (b : Int)) = some (.bool (decide (a ≤ b))) := Jj1 rfl
theorem Qp : Jd P kk .gtr T (.int q (a : Int)) (.int q (b : Int)) = some (.bool (decide (b < a))) := Jdi rfl
theorem Qq : Jd P kk .geq T (.int q (a : Int)) (.int q (b : Int)) = some (.bool (decide (b ≤ a))) := Jmy rfl
theorem JU : Jd P kk .eql T (.int q (a : Int)) (.int q (no_index (OfNat.ofNat b : Int))) = some (.bool (decide (a = OfNat.ofNat b))) := JbE rfl
theorem J8 : Jd P kk .neq T (.int q (a : Int)) (.int q (no_index (OfNat.ofNat b : Int))) = some (.bool (!decide (a = OfNat.ofNat b))) := Jdh rfl
theorem Qr : Jd P kk .lss T (.int q (a : Int)) (.int q (no_index (OfNat.ofNat b : Int))) = some (.bool (decide (a < OfNat.ofNat b))) := JaZ rfl
theorem Ql : Jd P kk .leq T (.int q (a : Int)) (.int q (no_index (OfNat.ofNat b : Int))) = some (.bool (decide (a ≤ OfNat.ofNat b))) := Jj1 rfl
theorem JX : Jd P kk .gtr T (.int q (a : Int)) (.int q (no_index (OfNat.ofNat b : Int))) = some (.bool (decide (OfNat.ofNat b < a))) := Jdi rfl
theorem Qs : Jd P kk .geq T (.int q (a : Int)) (.int q (no_index (OfNat.ofNat b : Int))) = some (.bool (decide (OfNat.ofNat b ≤ a))) := Jmy rfl
end
section
variable {kk : Bool} {T : TypeId} {k : IntKind} {a b : Int}
theorem Qt : Jd P kk .mul T (.int k a) (.int k b) = some (.int k (k.wrap (a * b))) := by simp [Jd]
theorem Ji1 (hb : b ≠ 0) : Jd P kk .quo T (.int k a) (.int k b) = some (.int k (k.wrap (a.tdiv b))) := by
 have h : Jd P kk .quo T (.int k a) (.int k b) = QY P (fun l => binOp .quo T (l.getD 0 undef) (l.getD 1 undef)) [.int k a, .int k b] := by simp [Jd]
 rw [h]
 have h2 : Q0 P (binOp .quo T (.int k a) (.int k b)) = some (.int k (k.wrap (a.tdiv b))) := by
  simp only [binOp, Op.intDiv, ne_eq, not_true_eq_false, if_false, if_neg hb]
  rfl
 simp only [QY, Jc, ofV]
 show (match Q0 P (binOp .quo T (.int k a) (.int k b)) with
  | some v => toV 6 v
  | none => none) = _
 rw [h2]
 rfl
theorem JmM (hb : b ≠ 0) : Jd P kk .rem T (.int k a) (.int k b) = some (.int k (a.tmod b)) := by
 have h : Jd P kk .rem T (.int k a) (.int k b) = QY P (fun l => binOp .rem T (l.getD 0 undef) (l.getD 1 undef)) [.int k a, .int k b] := by simp [Jd]
 rw [h]
 have h2 : Q0 P (binOp .rem T (.int k a) (.int k b)) = some (.int k (a.tmod b)) := by
  simp only [binOp, Op.intDiv, ne_eq, not_true_eq_false, if_false, if_neg hb]
  rfl
 simp only [QY, Jc, ofV]
 show (match Q0 P (binOp .rem T (.int k a) (.int k b)) with
  | some v => toV 6 v
  | none => none) = _
 rw [h2]
 rfl
end
def adr (z : Nat) : V → Nat → V
 | .sl _ cs _, i => .cp (cs.drop (i * z))
 | .ms id off _ _ _, i => .ptr id (off + i * z)
 | _, _ => .undef
theorem JlP {k : IntKind} {a : Int} (h : 0 ≤ a) : JaO (.int k a) = some a.toNat := by
 obtain ⟨n, rfl⟩ := Int.eq_ofNat_of_zero_le h
 rfl
theorem Vw.ix {T e : TypeId} (hT : P.underlying T = some (.slice e)) (hz : J7 P e = some 1) {x : V} {l : List S} (hv : Vw st x l) {k : IntKind} {a : Int} (h0 : 0 ≤ a) (h1 : a < (l.length : Int)) :
  Je P T x (.int k a) = some (adr 1 x a.toNat) := by
 have h2 := JlP (k := k) h0
 have hb : Nat.blt a.toNat l.length = true := by rw [Jbf]; exact decide_eq_true (by omega)
 cases hv with
 | nils => simp at h1; omega
 | sl l ex => simp only [Je, hT, h2, hz, hb, adr]
 | ms id off cap cs e' fl fz l hbx hl hlt hid hcap => simp only [Je, hT, h2, hz, hb, adr]
theorem Vw.ld {e : TypeId} (hz : J7 P e = some 1) (ha : QU P e = some false) {x : V} {l : List S} (hv : Vw st x l) {i : Nat} (hi : i < l.length) : JB P st e (adr 1 x i) = some (.str l[i]) := by
 have hg : l.getD i ⟨0, 0⟩ = l[i] := by rw [List.getD_eq_getElem?_getD, List.getElem?_eq_getElem hi]; rfl
 cases hv with
 | nils => simp at hi
 | sl l ex =>
  simp only [adr, JB, QS, ha, hz, Nat.mul_one]
  simp [hi]
 | ms id off cap cs e' fl fz l hbx hl hlt hid hcap =>
  simp only [adr, JB, QS, ha, hz, Nat.mul_one, hbx, hl i hi, hg]
end Go.Vm
namespace Go.Vm
open Go
def Jch (ops : Array Oper) (o : Oper) : Option (Option Nat × Bool) :=
 match o.guard with
 | none => none
 | some (j, w) => some ((match ops[j]? with
  | some p => p.dst
  | none => none), w)
def QB (fr : Fr) : Option (Option Nat × Bool) → Bool
 | none => true
 | some (none, _) => false
 | some (some d, w) => match Fr.at fr d with
  | .bool b => b == w
  | _ => false
theorem Ji2 (ops : Array Oper) (fr : Fr) (o : Oper) : QB fr (Jch ops o) = Jh ops fr o := by
 unfold Jch Jh
 cases o.guard with
 | none => rfl
 | some p =>
  obtain ⟨j, w⟩ := p
  simp only
  cases ops[j]? with
  | none => rfl
  | some q => cases hq : q.dst with
   | none => simp [QB, hq]
   | some d => simp only [QB, hq]; cases Fr.at fr d <;> rfl
def Qu (P : Program) (ih : CallF) (rd : Option Nat) : List (Option (Option Nat × Bool)) → List Oper → Fr → St → OR
 | g :: gs, o :: r, fr, st =>
  match QB fr g with
  | true => match Jn o.op with
   | false => match vop P ih fr st o.op with
    | .val v st' => Qu P ih rd gs r (Fr.to fr o.dst v) st'
    | .panic v st' => .panic v fr st'
    | .fail w => .fail (o.pos ++ ": " ++ w)
   | true => match rd, Jc8 P fr o.op with
    | none, some d => Qu P ih rd gs r (Fr.to { fr with ds := d :: fr.ds } o.dst .undef) st
    | _, _ => .fail (o.pos ++ ": defer")
  | false => Qu P ih rd gs r (Fr.to fr o.dst .undef) st
 | _, _, fr, st => .ok fr st
theorem Ji3 {P : Program} {ih : CallF} {rd : Option Nat} (ops : Array Oper) : ∀ (l : List Oper) (fr : Fr) (st : St), Qu P ih rd (l.map (Jch ops)) l fr st = Qn P ih rd ops l fr st
 | [], fr, st => rfl
 | o :: r, fr, st => by
  have ih' := Ji3 (P := P) (ih := ih) (rd := rd) ops r
  simp only [List.map_cons, Qu, Qn, Ji2]
  cases Jh ops fr o with
  | false => exact ih' _ _
  | true =>
   simp only
   cases Jn o.op with
   | false =>
    simp only
    cases vop P ih fr st o.op with
    | val v st' => exact ih' _ _
    | panic v st' => rfl
    | fail w => rfl
   | true =>
    simp only
    cases rd with
    | some q => rfl
    | none => cases Jc8 P fr o.op with
     | none => rfl
     | some d => exact ih' _ _
def OkG [Memo] (P : Program) (rd : Option Nat) (gs : List (Option (Option Nat × Bool))) (l : List Oper) (fr : Fr) (st : St) (K : Fr → St → Prop) : Prop :=
 match Qu P (ihCall (W P)) rd gs l fr st with
 | .ok fr' st' => K fr' st'
 | _ => False
theorem JlQ {P : Program} {ih : CallF} {rd : Option Nat} (n : Nat) : ∀ (gs : List (Option (Option Nat × Bool))) (l : List Oper) (fr : Fr) (st : St), gs.length = l.length → Qu P ih rd gs l fr st =
    match Qu P ih rd (gs.take n) (l.take n) fr st with
    | .ok fr1 st1 => Qu P ih rd (gs.drop n) (l.drop n) fr1 st1
    | r => r := by
  induction n with
  | zero => intro gs l fr st _; simp [Qu]
  | succ n ihn =>
    intro gs l fr st h
    cases gs with
    | nil => cases l with
      | nil => simp [Qu]
      | cons o r => simp at h
    | cons g gs => cases l with
     | nil => simp at h
     | cons o r =>
      have ih' := fun fr st => ihn gs r fr st (by simpa using h)
      simp only [List.take_succ_cons, List.drop_succ_cons, Qu]
      cases QB fr g with
      | false => exact ih' _ _
      | true =>
        simp only
        cases Jn o.op with
        | false =>
          simp only
          cases vop P ih fr st o.op with
          | val v st' => exact ih' _ _
          | panic v st' => rfl
          | fail w => rfl
        | true =>
          simp only
          cases rd with
          | some q => rfl
          | none => cases Jc8 P fr o.op with
            | none => rfl
            | some d => exact ih' _ _
theorem OkG.cut [Memo] {P : Program} {rd : Option Nat} {gs : List (Option (Option Nat × Bool))} {l : List Oper} {fr : Fr} {st : St} {Q : Fr → St → Prop} (n : Nat) (R : Fr → St → Prop) (hlen : Nat.beq gs.length l.length = true) (h : OkG P rd (gs.take n) (l.take n) fr st R)
  (k : ∀ fr' st', R fr' st' → OkG P rd (gs.drop n) (l.drop n) fr' st' Q) : OkG P rd gs l fr st Q := by
 unfold OkG at h ⊢
 rw [JlQ n gs l fr st (Nat.eq_of_beq_eq_true hlen)]
 cases hx : Qu P (ihCall (W P)) rd (gs.take n) (l.take n) fr st with
 | ok fr1 st1 => rw [hx] at h; exact k fr1 st1 h
 | panic v fr1 st1 => rw [hx] at h; exact h.elim
 | fail w => rw [hx] at h; exact h.elim
theorem OkG.cutK [Memo] {P : Program} {rd : Option Nat} {gs : List (Option (Option Nat × Bool))} {l : List Oper} {fr : Fr} {st : St} {Q : Fr → St → Prop} (n : Nat) (M : Fr → St → Prop) (hlen : Nat.beq gs.length l.length = true)
  (h : ∀ K : Fr → St → Prop, (∀ fr' st', M fr' st' → K fr' st') → OkG P rd (gs.take n) (l.take n) fr st K)
  (k : ∀ fr' st', M fr' st' → OkG P rd (gs.drop n) (l.drop n) fr' st' Q) : OkG P rd gs l fr st Q := OkG.cut n M hlen (h M fun _ _ h => h) k
end Go.Vm
namespace Go.Vm
open Go
section
variable [Memo] {P : Program} {rd : Option Nat} {fr : Fr} {st : St} {Q : AE → Fr → St → Prop}
def DoK [Memo] (P : Program) (rd : Option Nat) : List Code → Fr → St → (AE → Fr → St → Prop) → Prop
 | [], fr, st, Q => Q .normal fr st
 | c :: k, fr, st, Q => DoR P rd c fr st (andThen (fun fr st => DoK P rd k fr st Q) Q)
theorem Ks_ {a b : Code} {k : List Code} (h : DoK P rd (a :: b :: k) fr st Q) : DoK P rd (.seq a b :: k) fr st Q := by
 refine DoR.seq (DoR.mono h fun e fr' st' h => ?_)
 cases e with
 | normal => exact h
 | exit id => exact h
 | ret => exact h
 | panic v => exact h
theorem Kk_ {k : List Code} (h : DoK P rd k fr st Q) : DoK P rd (.skip :: k) fr st Q := DoR.skip h
theorem Kq_ {k : List Code} (h : Q .ret fr st) : DoK P rd (.ret :: k) fr st Q := DoR.ret h
theorem Kx_ {id : Nat} {k : List Code} (h : Q (.exit id) fr st) : DoK P rd (.exit id :: k) fr st Q := DoR.exit h
theorem Kt_ {x : Operand} {a b : Code} {k : List Code} (hx : ev fr x = some (.bool true)) (h : DoK P rd (a :: k) fr st Q) : DoK P rd (.cond x a b :: k) fr st Q := DoR.condT hx h
theorem Kf_ {x : Operand} {a b : Code} {k : List Code} (hx : ev fr x = some (.bool false)) (h : DoK P rd (b :: k) fr st Q) : DoK P rd (.cond x a b :: k) fr st Q := DoR.condF hx h
theorem DoK.reg {id : Nat} {ops : Array Oper} {k : List Code} (h : ∀ K : Fr → St → Prop, (∀ fr' st', DoK P rd k fr' st' Q → K fr' st') → OkR P rd ops ops.toList fr st K) : DoK P rd (.region id ops false :: k) fr st Q :=
 DoR.region (h _ fun _ _ h => h)
theorem Kr_ {id : Nat} {ops : Array Oper} {k : List Code} {gs : List (Option (Option Nat × Bool))} (hg : ops.toList.map (Jch ops) = gs) (h : ∀ K : Fr → St → Prop, (∀ fr' st', DoK P rd k fr' st' Q → K fr' st') → OkG P rd gs ops.toList fr st K) : DoK P rd (.region id ops false :: k) fr st Q := by
 refine DoK.reg fun K hK => ?_
 have := h K hK
 unfold OkG at this
 rw [← hg, Ji3] at this
 exact this
theorem Ka_ {id : Nat} {ops : Array Oper} {k : List Code} {gs : List (Option (Option Nat × Bool))} (h : ∀ K : Fr → St → Prop, (∀ fr' st', DoK P rd k fr' st' Q → K fr' st') → OkG P rd gs ops.toList fr st K) (hg : ops.toList.map (Jch ops) = gs := by kernel_rfl) : DoK P rd (.region id ops false :: k) fr st Q := Kr_ hg h
theorem DoK.draw {id : Nat} {ops : Array Oper} {k : List Code} {b l : List Nat} (hb : QH ops = b) (hl : Jdg P ops b = l) (hp : Jbe P ops b l = true)
  (h : ∀ K : Fr → St → Prop, (∀ fr' st', DoK P rd k fr' st' Q → K fr' st') →
   match QA P (ihCall (W P)) ops b st.ctr l { fr := fr, st := { st with ctr := st.ctr + ops.size }, snaps := [(ops.size, { st with ctr := st.ctr + ops.size })] } with
   | some d => K d.fr d.st
   | none => False) : DoK P rd (.region id ops true :: k) fr st Q :=
 DoR.draw hb hl hp (h _ fun _ _ h => h)
def JS (P : Program) (ih : CallF) (ops : Array Oper) (b : List Nat) (c0 : Nat) : List Oper → Nat → Drw → Option Drw
 | [], _, d => some d
 | o :: r, i, d => match Jh ops d.fr o with
  | false => JS P ih ops b c0 r (i + 1) { fr := Fr.to d.fr o.dst .undef, st := d.st, snaps := (match Ju P o.op with | .e => (i, d.st) :: d.snaps | _ => d.snaps) }
  | true =>
   match Ju P o.op with
   | .p => match JG P d.fr d.st o.op with
    | some v => JS P ih ops b c0 r (i + 1) { d with fr := Fr.to d.fr o.dst v }
    | none => none
   | .r => match d.snaps with
    | (_, s0) :: _ => match JG P d.fr s0 o.op with
     | some v => match JV P d.fr o.op v (b.getD i 0) d.snaps with
      | true => JS P ih ops b c0 r (i + 1) { d with fr := Fr.to d.fr o.dst v }
      | false => none
     | none => none
    | [] => none
   | .a => match JK P d.fr o.op with
    | some (cs, e, n) => match cs.all JN with
     | true => JS P ih ops b c0 r (i + 1) { fr := Fr.to d.fr o.dst (Qb (c0 + i) n), st := { d.st with box := d.st.box.put (c0 + i) (.cells cs e true (some 0)) }, snaps := d.snaps }
     | false => none
    | none => none
   | .e => match Qj P ih d.fr d.st o.op with
    | .val v st' => JS P ih ops b c0 r (i + 1) { fr := Fr.to d.fr o.dst v, st := st', snaps := (i, st') :: d.snaps }
    | _ => none
omit [Memo] in
theorem Jhu {P : Program} {ih : CallF} {ops : Array Oper} {b : List Nat} {c0 : Nat} : ∀ (l : List Oper) (i : Nat) (d : Drw), ops.toList.drop i = l → QA P ih ops b c0 (List.range' i l.length) d = JS P ih ops b c0 l i d
 | [], i, d, _ => rfl
 | o :: r, i, d, h => by
  have ho : ops[i]? = some o := by
   have := congrArg (fun l => l[0]?) h
   simpa [List.getElem?_drop] using this
  have hr : ops.toList.drop (i + 1) = r := by
   have := congrArg (fun l => l.drop 1) h
   simpa [List.drop_drop] using this
  have ih' : ∀ d, QA P ih ops b c0 (List.range' (i + 1) r.length) d = JS P ih ops b c0 r (i + 1) d := fun d => Jhu r (i + 1) d hr
  simp only [List.length_cons, List.range'_succ, QA, QO, ho, JS]
  cases Jh ops d.fr o with
  | false => simp only [ih']; cases Ju P o.op <;> rfl
  | true =>
   simp only
   cases Ju P o.op with
   | p =>
    simp only
    cases JG P d.fr d.st o.op with
    | none => rfl
    | some v => simp only [ih']
   | r =>
    simp only
    cases hs : d.snaps with
    | nil => rfl
    | cons s sn =>
     simp only
     cases JG P d.fr s.2 o.op with
     | none => rfl
     | some v =>
      simp only
      cases JV P d.fr o.op v (b.getD i 0) (s :: sn) with
      | true => simp only [ih']
      | false => rfl
   | a =>
    simp only
    cases JK P d.fr o.op with
    | none => rfl
    | some v =>
     simp only
     cases v.1.all JN with
     | true => simp only [ih']
     | false => rfl
   | e =>
    simp only
    cases Qj P ih d.fr d.st o.op with
    | val v st' => simp only [ih']
    | panic v st' => rfl
    | fail w => rfl
def OkD [Memo] (P : Program) (ops : Array Oper) (b : List Nat) (c0 : Nat) (l : List Oper) (i : Nat) (fr : Fr) (st : St) (snaps : List (Nat × St)) (K : Fr → St → Prop) : Prop :=
 match JS P (ihCall (W P)) ops b c0 l i { fr := fr, st := st, snaps := snaps } with
 | some d => K d.fr d.st
 | none => False
theorem Kg_ {id : Nat} {ops : Array Oper} {k : List Code} {b : List Nat} (hb : QH ops = b) (hl : Jdg P ops b = List.range' 0 ops.toList.length) (hp : Jbe P ops b (List.range' 0 ops.toList.length) = true)
  (h : ∀ K : Fr → St → Prop, (∀ fr' st', DoK P rd k fr' st' Q → K fr' st') →
   OkD P ops b st.ctr ops.toList 0 fr { ctr := st.ctr + ops.size, box := st.box } [(ops.size, { ctr := st.ctr + ops.size, box := st.box })] K) : DoK P rd (.region id ops true :: k) fr st Q := by
 refine DoK.draw hb hl hp fun K hK => ?_
 rw [Jhu ops.toList 0 _ rfl]
 exact h K hK
theorem Ki_ {id : Nat} {ops : Array Oper} {k : List Code} {b : List Nat} (h : ∀ K : Fr → St → Prop, (∀ fr' st', DoK P rd k fr' st' Q → K fr' st') →
   OkD P ops b st.ctr ops.toList 0 fr { ctr := st.ctr + ops.size, box := st.box } [(ops.size, { ctr := st.ctr + ops.size, box := st.box })] K) (hb : QH ops = b := by kernel_rfl) (hl : Jdg P ops b = List.range' 0 ops.toList.length := by kernel_rfl) (hp : Jbe P ops b (List.range' 0 ops.toList.length) = true := by kernel_rfl) : DoK P rd (.region id ops true :: k) fr st Q := Kg_ hb hl hp h
omit [Memo] in
theorem Jhv {P : Program} {ih : CallF} {ops : Array Oper} {b : List Nat} {c0 : Nat} : ∀ (l m : List Nat) (d : Drw), QA P ih ops b c0 (l ++ m) d = match QA P ih ops b c0 l d with
  | some d' => QA P ih ops b c0 m d'
  | none => none
 | [], m, d => rfl
 | i :: l, m, d => by
  simp only [List.cons_append, QA]
  cases QO P ih ops b c0 i d with
  | none => rfl
  | some d' => exact Jhv l m d'
omit [Memo] in
theorem Ji4 {P : Program} {ih : CallF} {ops : Array Oper} {b : List Nat} {c0 : Nat} (a n : Nat) (h : a + n ≤ ops.toList.length) (d : Drw) : QA P ih ops b c0 (List.range' a n) d = JS P ih ops b c0 ((ops.toList.drop a).take n) a d := by
 have key : ∀ (n i : Nat) (l : List Oper) (d : Drw), (∀ j (hj : j < l.length), ops[i + j]? = some l[j]) → l.length = n → QA P ih ops b c0 (List.range' i n) d = JS P ih ops b c0 l i d := by
  intro n
  induction n with
  | zero =>
   intro i l d _ hl
   obtain rfl := List.length_eq_zero_iff.1 hl
   rfl
  | succ n ihn =>
   intro i l d hg hl
   match l, hl with
   | o :: r, hl =>
    have ho : ops[i]? = some o := hg 0 (by simp)
    have ih' : ∀ d, QA P ih ops b c0 (List.range' (i + 1) n) d = JS P ih ops b c0 r (i + 1) d := fun d => ihn (i + 1) r d (fun j hj => by
     have := hg (j + 1) (by simpa using hj)
     rw [show i + 1 + j = i + (j + 1) from by omega, this]
     rfl) (by simpa using hl)
    simp only [List.range'_succ, QA, QO, ho, JS]
    cases Jh ops d.fr o with
    | false => simp only [ih']; cases Ju P o.op <;> rfl
    | true =>
     simp only
     cases Ju P o.op with
     | p =>
      simp only
      cases JG P d.fr d.st o.op with
      | none => rfl
      | some v => simp only [ih']
     | r =>
      simp only
      cases hs : d.snaps with
      | nil => rfl
      | cons s sn =>
       simp only
       cases JG P d.fr s.2 o.op with
       | none => rfl
       | some v =>
        simp only
        cases JV P d.fr o.op v (b.getD i 0) (s :: sn) with
        | true => simp only [ih']
        | false => rfl
     | a =>
      simp only
      cases JK P d.fr o.op with
      | none => rfl
      | some v =>
       simp only
       cases v.1.all JN with
       | true => simp only [ih']
       | false => rfl
     | e =>
      simp only
      cases Qj P ih d.fr d.st o.op with
      | val v st' => simp only [ih']
      | panic v st' => rfl
      | fail w => rfl
 refine key n a _ d (fun j hj => ?_) (by simp at h ⊢; omega)
 simp at hj
 simp
def Je9 (rs : List (Nat × Nat)) : List Nat := rs.flatMap fun r => List.range' r.1 r.2
def Qd [Memo] (P : Program) (ops : Array Oper) (b : List Nat) (c0 : Nat) : List (Nat × Nat) → Drw → (Fr → St → Prop) → Prop
 | [], d, K => K d.fr d.st
 | r :: rs, d, K => match JS P (ihCall (W P)) ops b c0 ((ops.toList.drop r.1).take r.2) r.1 d with
  | some d' => Qd P ops b c0 rs d' K
  | none => False
theorem Jhw {P : Program} {ops : Array Oper} {b : List Nat} {c0 : Nat} {K : Fr → St → Prop} : ∀ (rs : List (Nat × Nat)) (d : Drw), (rs.all fun r => Nat.ble (r.1 + r.2) ops.toList.length) = true → Qd P ops b c0 rs d K →
  match QA P (ihCall (W P)) ops b c0 (Je9 rs) d with
  | some d => K d.fr d.st
  | none => False
 | [], d, _, h => h
 | r :: rs, d, hr, h => by
  simp only [List.all_cons, Bool.and_eq_true] at hr
  simp only [Qd] at h
  show match QA P (ihCall (W P)) ops b c0 (List.range' r.1 r.2 ++ Je9 rs) d with
   | some d => K d.fr d.st
   | none => False
  rw [Jhv, Ji4 _ _ (Nat.le_of_ble_eq_true hr.1)]
  cases hx : JS P (ihCall (W P)) ops b c0 ((ops.toList.drop r.1).take r.2) r.1 d with
  | none => rw [hx] at h; exact h.elim
  | some d' => rw [hx] at h; exact Jhw rs d' hr.2 h
theorem Ke_ {id : Nat} {ops : Array Oper} {k : List Code} {b : List Nat} {rs : List (Nat × Nat)} (hb : QH ops = b) (hl : Jdg P ops b = Je9 rs) (hp : Jbe P ops b (Je9 rs) = true) (hr : (rs.all fun r => Nat.ble (r.1 + r.2) ops.toList.length) = true)
  (h : ∀ K : Fr → St → Prop, (∀ fr' st', DoK P rd k fr' st' Q → K fr' st') →
   Qd P ops b st.ctr rs { fr := fr, st := { ctr := st.ctr + ops.size, box := st.box }, snaps := [(ops.size, { ctr := st.ctr + ops.size, box := st.box })] } K) : DoK P rd (.region id ops true :: k) fr st Q := by
 refine DoK.draw hb hl hp fun K hK => ?_
 exact Jhw rs _ hr (h K hK)
theorem Kj_ {id : Nat} {ops : Array Oper} {k : List Code} {b : List Nat} {rs : List (Nat × Nat)} (h : ∀ K : Fr → St → Prop, (∀ fr' st', DoK P rd k fr' st' Q → K fr' st') →
   Qd P ops b st.ctr rs { fr := fr, st := { ctr := st.ctr + ops.size, box := st.box }, snaps := [(ops.size, { ctr := st.ctr + ops.size, box := st.box })] } K) (hb : QH ops = b := by kernel_rfl) (hl : Jdg P ops b = Je9 rs := by kernel_rfl) (hp : Jbe P ops b (Je9 rs) = true := by kernel_rfl) (hr : (rs.all fun r => Nat.ble (r.1 + r.2) ops.toList.length) = true := by kernel_rfl) : DoK P rd (.region id ops true :: k) fr st Q := Ke_ hb hl hp hr h
theorem Kn_ {c : List Code} (M : Fr → Prop) (h : M fr) (k : ∀ fr, M fr → DoK P rd c fr st Q) : DoK P rd c fr st Q := k fr h
def JoW (id : Nat) : AE → Prop
 | .normal => False
 | .exit j => j ≠ id
 | _ => True
theorem Kb_ {id : Nat} {b : Code} {k : List Code}
  (h : ∀ K : AE → Fr → St → Prop, (∀ fr' st', DoK P rd k fr' st' Q → K .normal fr' st') → (∀ fr' st', DoK P rd k fr' st' Q → K (.exit id) fr' st') → (∀ e fr' st', JoW id e → Q e fr' st' → K e fr' st') → DoK P rd [b] fr st K) :
  DoK P rd (.block id b :: k) fr st Q := by
 refine DoR.block (DoR.mono (h (fun e fr st => inBlock id (andThen (fun fr st => DoK P rd k fr st Q) Q) e fr st) ?_ ?_ ?_) fun e fr' st' h => ?_)
 ·intro fr' st' h; exact h
 ·intro fr' st' h; simp only [inBlock, if_true]; exact h
 ·intro e fr' st' ha h
  cases e with
  | normal => exact ha.elim
  | exit j => simp only [inBlock]; rw [if_neg ha]; exact h
  | ret => exact h
  | panic v => exact h
 ·cases e with
  | normal => exact h
  | exit id => exact h
  | ret => exact h
  | panic v => exact h
theorem Kl_ {id : Nat} {b : Code} {k : List Code} (N : Nat) (I : Nat → Fr → St → Prop) (i0 : Nat) (M : Fr → St → Prop) (h0 : I i0 fr st) (hb : ∀ i fr st, I i fr st → i ≤ N)
  (step : ∀ i fr st, I i fr st → ∀ K : AE → Fr → St → Prop, (∀ j fr' st', i < j → I j fr' st' → K .normal fr' st') → (∀ fr' st', M fr' st' → K (.exit id) fr' st') → (∀ e fr' st', JoW id e → Q e fr' st' → K e fr' st') → DoK P rd [b] fr st K)
  (tail : ∀ fr' st', M fr' st' → DoK P rd k fr' st' Q) : DoK P rd (.block id (.loop b) :: k) fr st Q := by
 refine DoR.block (DoR.up N I i0 h0 hb fun i fr1 st1 hi => ?_)
 refine DoR.mono (step i fr1 st1 hi (fun e fr st => andThen (fun fr' st' => ∃ j, i < j ∧ I j fr' st') (inBlock id (andThen (fun fr st => DoK P rd k fr st Q) Q)) e fr st) ?_ ?_ ?_) fun e fr' st' h => ?_
 ·intro j fr' st' hj h; exact ⟨j, hj, h⟩
 ·intro fr' st' h; simp only [andThen, inBlock, if_true]; exact tail _ _ h
 ·intro e fr' st' ha h
  cases e with
  | normal => exact ha.elim
  | exit j => simp only [andThen, inBlock]; rw [if_neg ha]; exact h
  | ret => exact h
  | panic v => exact h
 ·cases e with
  | normal => exact h
  | exit id => exact h
  | ret => exact h
  | panic v => exact h
def Jo9 : AE → Prop
 | .normal => False
 | _ => True
theorem Km_ {a : Code} {k : List Code} (M : Fr → St → Prop)
  (h : ∀ K : AE → Fr → St → Prop, (∀ fr' st', M fr' st' → K .normal fr' st') → (∀ e fr' st', Jo9 e → Q e fr' st' → K e fr' st') → DoK P rd [a] fr st K)
  (tail : ∀ fr' st', M fr' st' → DoK P rd k fr' st' Q) : DoK P rd (a :: k) fr st Q := by
 refine DoR.mono (h (fun e fr st => andThen (fun fr st => DoK P rd k fr st Q) Q e fr st) (fun _ _ h => tail _ _ h) ?_) fun e fr' st' h => ?_
 ·intro e fr' st' ha h
  cases e with
  | normal => exact ha.elim
  | exit j => exact h
  | ret => exact h
  | panic v => exact h
 ·cases e with
  | normal => exact h
  | exit id => exact h
  | ret => exact h
  | panic v => exact h
theorem Qa {gl : Gl} {f : Nat} {args : List V} {fn : Func} {c : Code} {R : V → St → Prop} (hn : (Memo.look f).run args st = none) (hf : P.funcs[f]? = some fn) (hb : fn.body = some c)
  (hs : (Nat.ble args.length fn.ntmps && JY fn.ntmps c) = true)
  (h : ∀ R' : V → St → Prop, (∀ v st', R v st' → R' v st') → ∀ K : AE → Fr → St → Prop, (∀ fr st, Jx P fn R' .ret fr st → K .ret fr st) → (∀ fr st, Jx P fn R' .normal fr st → K .normal fr st) → DoK P none [c] (Jy gl args) st K) : Says P gl f args st R := by
 refine Jo8 hn hf hb hs (DoR.mono (h R (fun _ _ h => h) (Jx P fn R) (fun _ _ h => h) (fun _ _ h => h)) fun e fr' st' h => ?_)
 cases e with
 | normal => exact h
 | exit id => exact h
 | ret => exact h
 | panic v => exact h
end
theorem JE {P : Program} {st : St} {c : Nat} {T : TypeId} {a : V} : JB P { ctr := st.ctr + c, box := st.box } T a = JB P st T a := by cases a <;> rfl
theorem Js {st : St} {x : Bx} {i : Nat} : (st.new x).box.get i = if i = st.ctr then some x else st.box.get i := Tr.get_put ..
theorem Ji {st : St} {x : Bx} {j i : Nat} : (st.put j x).box.get i = if i = j then some x else st.box.get i := Tr.get_put ..
theorem J3 {st : St} {x : Bx} : (st.new x).ctr = st.ctr + 1 := rfl
theorem JI {st : St} {x : Bx} {j : Nat} : (st.put j x).ctr = st.ctr := rfl
theorem Keep.new' {a b : St} (h : Keep a b) (x : Bx) : Keep a (b.new x) := h.new x
theorem Keep.put' {a b : St} (h : Keep a b) {id : Nat} (hid : a.ctr ≤ id) (x : Bx) : Keep a (b.put id x) := h.put hid x
end Go.Vm
namespace Go.Vm
open Go Go.Proofs Go.Pa
def JcD {α : Type} (f : α → List V) (l : List α) (i : Nat) : List V := (l.drop i).flatMap f
theorem Jbc {α : Type} {f : α → List V} {l : List α} {i : Nat} (h : i < l.length) : JcD f l i = f l[i] ++ JcD f l (i + 1) := by
 unfold JcD
 rw [List.drop_eq_getElem_cons h, List.flatMap_cons]
theorem Row.ix {α : Type} {f : α → List V} {z : Nat} {x : V} {l : List α} (h : Row f x l) (hz : ∀ a ∈ l, (f a).length = z) {P : Program} {T e : TypeId} (hT : P.underlying T = some (.slice e)) (he : J7 P e = some z) {k : IntKind} {a : Int} (h0 : 0 ≤ a) (h1 : a < (l.length : Int)) :
  Je P T x (.int k a) = some (.cp (JcD f l a.toNat)) := by
 obtain ⟨n, rfl⟩ := Int.eq_ofNat_of_zero_le h0
 have hn : n < l.length := by omega
 have hb : Nat.blt n l.length = true := by rw [Jbf]; exact decide_eq_true hn
 cases h with
 | nils => simp at hn
 | sl l ex => simp only [Je, hT, QJ, he, hb]; rw [Je7 l hz n hn, Int.toNat_natCast, Jbc hn]; rfl
theorem JbG {cs : List V} : Jq Tryz.prog 47 (.cp cs) 0 = some (.cp cs) := by kernel_rfl
theorem JbH {cs : List V} : Jq Tryz.prog 47 (.cp cs) 1 = some (.cp (cs.drop 1)) := by kernel_rfl
theorem Jai {cs : List V} : Jq Tryz.prog 47 (.cp cs) 2 = some (.cp (cs.drop 2)) := by kernel_rfl
theorem Jbx {cs : List V} : Jq Tryz.prog 47 (.cp cs) 3 = some (.cp (cs.drop 3)) := by kernel_rfl
theorem Jeb {cs : List V} : Jq Tryz.prog 47 (.cp cs) 4 = some (.cp (cs.drop 4)) := by kernel_rfl
theorem Jec {cs : List V} : Jq Tryz.prog 47 (.cp cs) 5 = some (.cp (cs.drop 5)) := by kernel_rfl
section
variable {st : St} {l : List Fw} {i : Nat}
theorem flp (h : i < l.length) : JB Tryz.prog st 47 (.cp (JcD Fw.cells l i)) = some (.agg l[i].cells) := by
 rw [Jbc h]; exact Jge _ _ _
end
theorem ilp {st : St} {l : List Int} {i : Nat} (h : i < l.length) : JB Tryz.prog st 3 (.cp (JcD iC l i)) = some (.int .i64 l[i]) := by
 rw [Jbc h]; exact JmI _ _ _
def Jbi (f : Nat → Nat) : Nat → Nat
 | 0 => 0
 | n + 1 => Jbi f n + f (n + 1)
theorem Jhx (f g : Nat → Nat) : ∀ n, Jbi (fun m => f m + g m) n = Jbi f n + Jbi g n
 | 0 => rfl
 | n + 1 => by simp only [Jbi, Jhx f g n]; omega
theorem Jci {f g : Nat → Nat} : ∀ {n : Nat}, (∀ m, 1 ≤ m → m ≤ n → f m = g m) → Jbi f n = Jbi g n
 | 0, _ => rfl
 | n + 1, h => by simp only [Jbi]; rw [Jci fun m h1 h2 => h m h1 (by omega), h (n + 1) (by omega) (by omega)]
theorem Jfa : ∀ n, Jbi (fun _ => 1) n = n
 | 0 => rfl
 | n + 1 => by simp only [Jbi, Jfa n]
def inR (n : Nat) (k : Int) : Bool := decide (1 ≤ k) && decide (k ≤ (n : Int))
theorem Jhy (k : Int) : ∀ n : Nat, Jbi (fun m => if (m : Int) = k then 1 else 0) n = if inR n k then 1 else 0
 | 0 => by simp [Jbi, inR]; omega
 | n + 1 => by
  simp only [Jbi, Jhy k n, inR, Bool.and_eq_true, decide_eq_true_eq]
  by_cases h : ((n + 1 : Nat) : Int) = k
  ·rw [if_pos h, if_neg (by omega), if_pos (by omega)]
  ·rw [if_neg h]
   by_cases h2 : 1 ≤ k ∧ k ≤ (n : Int)
   ·rw [if_pos h2, if_pos (by omega)]
   ·rw [if_neg h2, if_neg (by omega)]
theorem Jdq (n : Nat) : ∀ K : List Int, Jbi (fun m => K.count (m : Int)) n = (K.filter (inR n)).length
 | [] => by
  have h : ∀ n, Jbi (fun _ => 0) n = 0 := fun n => by induction n with
   | zero => rfl
   | succ n ih => simp only [Jbi, ih]
  simp [h]
 | k :: K => by
  have h : Jbi (fun m => (k :: K).count (m : Int)) n = Jbi (fun m => K.count (m : Int) + if (m : Int) = k then 1 else 0) n := Jci fun m _ _ => by
   rw [List.count_cons]
   by_cases hk : k = (m : Int)
   ·simp [hk]
   ·have : ¬ (m : Int) = k := fun h => hk h.symm
    simp [hk, this]
  rw [h, Jhx, Jdq n K, Jhy, List.filter_cons]
  cases inR n k <;> simp
theorem JfY (l : List Fw) (n : Int) : (occ l n).length = (JT l).count n := by
 have h : ∀ i, i ≤ l.length → (Jbb l n i).length = (JT (l.take i)).count n := by
  intro i
  induction i with
  | zero => intro _; simp [Jbb, JT]
  | succ i ih =>
   intro hi
   rw [Jgi (by omega), List.length_append, ih (by omega)]
   unfold JT
   rw [List.take_add_one, List.getElem?_eq_getElem (by omega), List.flatMap_append, List.count_append]
   congr 1
   simp only [QQ, List.length_map, Option.toList_some, List.flatMap_cons, List.flatMap_nil, List.append_nil]
   rw [List.count_eq_length_filter]
   congr 1
 have := h l.length (Nat.le_refl _)
 rw [List.take_length] at this
 exact this
theorem Jew {l : List Fw} {n : Int} {j : Nat} : j ∈ occ l n ↔ ∃ h : j < l.length, n ∈ l[j].kids := by
 unfold occ Jbb
 rw [List.mem_flatMap]
 constructor
 ·rintro ⟨m, hm, hj⟩
  have hm := List.mem_range.1 hm
  unfold QQ at hj
  rw [List.mem_map] at hj
  obtain ⟨k, hk, rfl⟩ := hj
  rw [List.mem_filter] at hk
  have := of_decide_eq_true hk.2
  subst this
  refine ⟨hm, ?_⟩
  have := hk.1
  simpa [Jif, hm] using this
 ·rintro ⟨h, hn⟩
  refine ⟨j, List.mem_range.2 h, ?_⟩
  unfold QQ
  rw [List.mem_map]
  refine ⟨n, List.mem_filter.2 ⟨?_, by simp⟩, rfl⟩
  simpa [Jif, h] using hn
theorem Jhz {l : List Fw} {k : Int} : k ∈ JT l ↔ ∃ j, ∃ h : j < l.length, k ∈ l[j].kids := by
 unfold JT
 rw [List.mem_flatMap]
 constructor
 ·rintro ⟨f, hf, hk⟩
  obtain ⟨j, hj, rfl⟩ := List.getElem_of_mem hf
  exact ⟨j, hj, hk⟩
 ·rintro ⟨j, hj, hk⟩
  exact ⟨_, List.getElem_mem hj, hk⟩
structure MayF (l : List Fw) : Prop where
 pos : 0 < l.length
 head : Jap l = true
 one : ∀ j (h : j < l.length), Ja8 l[j] = true
 kid : ∀ j (h : j < l.length) k, k ∈ l[j].kids → (j : Int) < k ∧ k < (l.length : Int)
 once : ∀ m, 1 ≤ m → m < l.length → (JT l).count (m : Int) = 1
theorem Ji5 {l : List Fw} (h : Jap l = true) : 0 < l.length := by
 cases l with
 | nil => simp [Jap] at h
 | cons f r => simp
theorem JhA {l : List Fw} : Jdn l = true ↔ ∀ j (h : j < l.length), Jet l.length j l[j] = true := by
 constructor
 ·intro hf j hj
  unfold Jdn at hf
  rw [List.all_eq_true] at hf
  have := hf j (List.mem_range.2 hj)
  rwa [List.getElem?_eq_getElem hj] at this
 ·intro h
  exact Jht (i := l.length) (fun j hj _ => h j hj) (Nat.le_refl _)
theorem Ji6 {l : List Fw} (_hp : 0 < l.length) : (((stC l.length (JT l)).drop 1).any (fun n => !decide (n = 1))) = false ↔ ∀ m, 1 ≤ m → m < l.length → (JT l).count (m : Int) = 1 := by
 rw [List.any_eq_false]
 constructor
 ·intro h m h1 h2
  have hm : ((JT l).count (m : Int) : Int) ∈ (stC l.length (JT l)).drop 1 := by
   rw [List.mem_iff_getElem?]
   refine ⟨m - 1, ?_⟩
   rw [List.getElem?_drop, show 1 + (m - 1) = m from by omega, Jev _ h2]
  have := h _ hm
  simp at this
  omega
 ·intro h x hx
  rw [List.mem_iff_getElem?] at hx
  obtain ⟨i, hi⟩ := hx
  rw [List.getElem?_drop] at hi
  have hl : 1 + i < l.length := by
   rw [List.getElem?_eq_some_iff] at hi
   obtain ⟨h1, _⟩ := hi
   rwa [Jc0] at h1
  rw [Jev _ hl] at hi
  have := h (1 + i) (by omega) hl
  rw [this] at hi
  simp at hi
  simp [← hi]
theorem Jbd {l : List Fw} : Jeu l = true ↔ MayF l := by
 unfold Jeu
 rw [Bool.and_eq_true, Bool.and_eq_true, Bool.not_eq_true']
 constructor
 ·rintro ⟨⟨h1, h2⟩, h3⟩
  have hp := Ji5 h1
  rw [JhA] at h2
  rw [Ji6 hp] at h3
  refine ⟨hp, h1, fun j hj => ?_, fun j hj k hk => ?_, h3⟩
  ·have := h2 j hj
   rw [Jet, Bool.and_eq_true] at this
   exact this.1
  ·have := h2 j hj
   rw [Jet, Bool.and_eq_true, List.all_eq_true] at this
   have := this.2 k hk
   rw [Je8, Bool.and_eq_true] at this
   exact ⟨of_decide_eq_true this.1, of_decide_eq_true this.2⟩
 ·rintro ⟨hp, h1, h2, h3, h4⟩
  refine ⟨⟨h1, JhA.2 fun j hj => ?_⟩, (Ji6 hp).2 h4⟩
  rw [Jet, Bool.and_eq_true, List.all_eq_true]
  refine ⟨h2 j hj, fun k hk => ?_⟩
  rw [Je8, Bool.and_eq_true]
  exact ⟨decide_eq_true (h3 j hj k hk).1, decide_eq_true (h3 j hj k hk).2⟩
theorem Jfb {l : List Fw} {m : Int} (h : (JT l).count m = 1) : ∃ j, ∃ hj : j < l.length, m ∈ l[j].kids ∧ Jab l m = (j : Int) := by
 rw [← JfY] at h
 match ho : occ l m, h with
 | [j], _ =>
  have hm : j ∈ occ l m := by rw [ho]; simp
  obtain ⟨hj, hk⟩ := Jew.1 hm
  exact ⟨j, hj, hk, by unfold Jab; rw [ho]; rfl⟩
theorem Jgk {l : List Fw} : Jig l = true ↔ MayF l := by
 unfold Jig
 rw [Bool.and_eq_true, Bool.and_eq_true, Bool.and_eq_true, List.all_eq_true, List.all_eq_true, decide_eq_true_iff]
 constructor
 ·rintro ⟨⟨⟨h1, h2⟩, h3⟩, h4⟩
  have hp := Ji5 h1
  have hstand : ∀ m, 1 ≤ m → m < l.length → Jct l m = true := fun m hm1 hm2 => h4 m (by
   rw [List.mem_iff_getElem]
   exact ⟨m - 1, by simp; omega, by simp; omega⟩)
  have honce : ∀ m, 1 ≤ m → m < l.length → (JT l).count (m : Int) = 1 := fun m hm1 hm2 => by
   have := hstand m hm1 hm2
   rw [Jct, Bool.and_eq_true] at this
   have h5 := of_decide_eq_true this.1
   rw [← JfY]
   unfold Jab at h5
   match ho : occ l (m : Int) with
   | [] => rw [ho] at h5; simp [JiY] at h5
   | [j] => rfl
   | a :: b :: c => rw [ho] at h5; simp [JiY] at h5
  have hsum := Jdq (l.length - 1) (JT l)
  rw [Jci (g := fun _ => 1) fun m hm1 hm2 => honce m hm1 (by omega), Jfa] at hsum
  have hall : ∀ k ∈ JT l, inR (l.length - 1) k = true := by
   have h6 : (JT l).filter (inR (l.length - 1)) = JT l := by
    apply List.filter_eq_self.2
    have := List.length_filter_eq_length_iff (p := inR (l.length - 1)) (l := JT l)
    exact this.1 (by omega)
   exact List.filter_eq_self.1 h6
  refine ⟨hp, h1, fun j hj => h2 _ (List.getElem_mem hj), fun j hj k hk => ?_, honce⟩
  have hin := hall k (Jhz.2 ⟨j, hj, hk⟩)
  rw [inR, Bool.and_eq_true] at hin
  have k1 := of_decide_eq_true hin.1
  have k2 := of_decide_eq_true hin.2
  obtain ⟨m, rfl⟩ := Int.eq_ofNat_of_zero_le (show 0 ≤ k by omega)
  refine ⟨?_, by omega⟩
  have hs := hstand m (by omega) (by omega)
  rw [Jct, Bool.and_eq_true] at hs
  have h7 := of_decide_eq_true hs.2
  obtain ⟨j', hj', hk', ha⟩ := Jfb (honce m (by omega) (by omega))
  have : j = j' := by
   have hc := honce m (by omega) (by omega)
   rw [← JfY] at hc
   match ho : occ l (m : Int), hc with
   | [a], _ =>
    have m1 : j ∈ occ l (m : Int) := Jew.2 ⟨hj, hk⟩
    have m2 : j' ∈ occ l (m : Int) := Jew.2 ⟨hj', hk'⟩
    rw [ho] at m1 m2
    simp at m1 m2
    omega
  subst this
  omega
 ·rintro ⟨hp, h1, h2, h3, h4⟩
  refine ⟨⟨⟨h1, fun f hf => ?_⟩, ?_⟩, fun m hm => ?_⟩
  ·obtain ⟨j, hj, rfl⟩ := List.getElem_of_mem hf
   exact h2 j hj
  ·have hsum := Jdq (l.length - 1) (JT l)
   rw [Jci (g := fun _ => 1) fun m hm1 hm2 => h4 m hm1 (by omega), Jfa] at hsum
   have h6 : (JT l).filter (inR (l.length - 1)) = JT l := List.filter_eq_self.2 fun k hk => by
    obtain ⟨j, hj, hk⟩ := Jhz.1 hk
    have := h3 j hj k hk
    rw [inR, Bool.and_eq_true]
    exact ⟨decide_eq_true (by omega), decide_eq_true (by omega)⟩
   rw [h6] at hsum
   omega
  ·rw [List.mem_iff_getElem] at hm
   obtain ⟨i, hi, rfl⟩ := hm
   simp only [List.length_drop, List.length_range] at hi
   simp only [List.getElem_drop, List.getElem_range]
   obtain ⟨j, hj, hk, ha⟩ := Jfb (h4 (1 + i) (by omega) (by omega))
   have := h3 j hj _ hk
   rw [Jct, Bool.and_eq_true, ha]
   exact ⟨decide_eq_true (by omega), decide_eq_true (by omega)⟩
end Go.Vm
namespace Go.Vm
open Go Go.Proofs Go.Pa
attribute [local simp] OkG Qu QB OkD Qd JS Jh Jn vop Ju JG ev evs toV Jm Fr.dsTo Fr.glTo Fr.toNone Jj Jk Jl Qj Jc JL Jv V.undef J5 QA QO JV Qo Qg Qh Qk Qp Qq JU J8 Qr Ql JX Qs JC JF JE Jz JM Jo JW J2 JbG JbH Jai Jbx Jeb Jec
theorem Joa {l : List S} {i : Nat} (h : i < l.length) : l.getD i ⟨0, 0⟩ = l[i] := by rw [List.getD_eq_getElem?_getD, List.getElem?_eq_getElem h]; rfl
theorem Jdr {f : Fw} (h : Ja8 f = true) : f.names.length = f.kids.length := by
 unfold Ja8 at h
 cases hh : Jde f with
 | false => rw [hh] at h; cases h
 | true =>
  unfold Jde at hh
  rw [Bool.and_eq_true] at hh
  exact of_decide_eq_true hh.2
variable [Memo] [NY]
end Go.Vm
namespace Go.Vm
open Go
inductive Mine (lo : Nat) (e : TypeId) (st : St) : V → List V → Prop
 | nils : Mine lo e st .nils []
 | ms (id n : Nat) (cap : Option Nat) (cs : List V) (fl : Bool) (hlo : lo ≤ id) (hid : id < st.ctr) (hb : st.box.get id = some (.cells cs e fl (some 0))) (hn : n ≤ cs.length) (hcap : ∀ c, cap = some c → n ≤ c ∧ c ≤ cs.length) :
   Mine lo e st (.ms id 0 n 1 cap) (cs.take n)
def Jbo (st : St) (x : V) (l : List V) : Prop := Jan st 1 x = some (l, l.length) ∧ l.all JN = true
theorem JfZ (l : List S) : (l.map V.str).all JN = true := by simp [JN]
theorem Vw.srcs {st : St} {x : V} {l : List S} (h : Vw st x l) : Jbo st x (l.map .str) := ⟨by rw [h.src, List.length_map], JfZ l⟩
theorem Mine.src {lo : Nat} {e : TypeId} {st : St} {x : V} {l : List V} (h : Mine lo e st x l) (ho : l.all JN = true) : Jbo st x l := by
 refine ⟨?_, ho⟩
 cases h with
 | nils => rfl
 | ms id n cap cs fl hlo hid hb hn hcap =>
  have h1 : Nat.ble (0 + n) cs.length = true := Nat.ble_eq_true_of_le (by omega)
  simp only [Jan, J6, hb, Nat.mul_one, h1, sub, List.drop_zero, List.length_take, Nat.min_eq_left hn]
theorem Mine.vw {lo : Nat} {e : TypeId} {st : St} {x : V} {l : List S} (h : Mine lo e st x (l.map .str)) : Vw st x l := by
 generalize hm : l.map V.str = m at h
 cases h with
 | nils =>
  have : l = [] := by simpa using hm
  subst this
  exact .nils
 | ms id n cap cs fl hlo hid hb hn hcap =>
  have hl : l.length = n := by have := congrArg List.length hm; simpa [Nat.min_eq_left hn] using this
  subst hl
  refine .ms id 0 cap cs e fl (some 0) l hb (fun i hi => ?_) (by omega) hid ?_
  ·have := congrArg (fun m => m[i]?) hm
   simp only [List.getElem?_map, List.getElem?_take, if_pos hi, List.getElem?_eq_getElem hi, Option.map_some] at this
   rw [Nat.zero_add, ← this, List.getD_eq_getElem?_getD, List.getElem?_eq_getElem hi]; rfl
  ·cases cap with
   | none => exact JbD _
   | some c => exact Nat.ble_eq_true_of_le (hcap c rfl).1
theorem Mine.keep {lo : Nat} {e : TypeId} {st st' : St} {x : V} {l : List V} (h : Mine lo e st x l) (hk : Keep st st') : Mine lo e st' x l := by
 cases h with
 | nils => exact .nils
 | ms id n cap cs fl hlo hid hb hn hcap => exact .ms id n cap cs fl hlo (Nat.lt_of_lt_of_le hid hk.ctr) (by rw [hk.box id hid]; exact hb) hn hcap
theorem Mine.low {lo lo' : Nat} {e : TypeId} {st : St} {x : V} {l : List V} (h : Mine lo e st x l) (hl : lo' ≤ lo) : Mine lo' e st x l := by
 cases h with
 | nils => exact .nils
 | ms id n cap cs fl hlo hid hb hn hcap => exact .ms id n cap cs fl (Nat.le_trans hl hlo) hid hb hn hcap
structure Low (lo : Nat) (st st' : St) : Prop where
 ctr : st.ctr ≤ st'.ctr
 box : ∀ id, id < lo → st'.box.get id = st.box.get id
theorem Low.keep {lo : Nat} {a b c : St} (h : Low lo b c) (k : Keep a b) (hl : a.ctr ≤ lo) : Keep a c := ⟨Nat.le_trans k.ctr h.ctr, fun id hi => (h.box id (by omega)).trans (k.box id hi)⟩
theorem Low.refl (lo : Nat) (st : St) : Low lo st st := ⟨Nat.le_refl _, fun _ _ => rfl⟩
theorem Low.trans {lo : Nat} {a b c : St} (h : Low lo a b) (k : Low lo b c) : Low lo a c := ⟨Nat.le_trans h.ctr k.ctr, fun id hi => (k.box id hi).trans (h.box id hi)⟩
theorem Low.of {lo : Nat} {a b : St} (h : Keep a b) (hl : lo ≤ a.ctr) : Low lo a b := ⟨h.ctr, fun id hi => h.box id (by omega)⟩
theorem JlR (cs news : List V) (n : Nat) (h : n ≤ cs.length) : (over cs n news).take (n + news.length) = cs.take n ++ news := by
 unfold over
 rw [List.append_assoc, List.take_append, List.take_of_length_le (by simp; omega), List.length_take, Nat.min_eq_left h]
 congr 1
 rw [Nat.add_sub_cancel_left, List.take_append_of_le_length (by simp), List.take_of_length_le (by simp)]
theorem Ji7 (cs news : List V) (n : Nat) (h : n + news.length ≤ cs.length) : (over cs n news).length = cs.length := by
 unfold over; simp; omega
variable {P : Program} {T e : TypeId}
def vid : V → Nat → Prop
 | .ms id _ _ _ _, i => i = id
 | _, _ => False
theorem Mine.stab {lo : Nat} {e : TypeId} {st st' : St} {x : V} {l : List V} (h : Mine lo e st x l) (hc : st.ctr ≤ st'.ctr) (hb : ∀ i, vid x i → st'.box.get i = st.box.get i) : Mine lo e st' x l := by
 cases h with
 | nils => exact .nils
 | ms id n cap cs fl hlo hid hb' hn hcap => exact .ms id n cap cs fl hlo (Nat.lt_of_lt_of_le hid hc) (by rw [hb id rfl]; exact hb') hn hcap
theorem Mine.vid_lt {lo : Nat} {e : TypeId} {st : St} {x : V} {l : List V} (h : Mine lo e st x l) {i : Nat} (hi : vid x i) : lo ≤ i ∧ i < st.ctr := by
 cases h with
 | nils => exact hi.elim
 | ms id n cap cs fl hlo hid hb' hn hcap => obtain rfl := (show i = id from hi); exact ⟨hlo, hid⟩
theorem Mine.sim {lo : Nat} {e : TypeId} {st : St} {x : V} {l : List V} (h : Mine lo e st x l) : Jms x = true := by cases h <;> rfl
theorem Mine.push2 {i : TypeInfo} {z : V} (hT : P.underlying T = some (.slice e)) (hi : P.info? e = some i) (hs : i.size = 1) (hzv : Q4 P e = some z) (hzc : z.cells.length = 1) {st : St} {x s : V} {l m : List V} {lo : Nat} (h : Mine lo e st x l)
  (hm : Jbo st s m) (hlo : lo ≤ st.ctr) (hb1 : (l.length + m.length) * i.bytes ≤ JH) (hb2 : l.length + m.length ≤ JH) :
  ∃ y st', QX P st T x s = some (y, st') ∧ Low lo st st' ∧ Mine lo e st' y (l ++ m) ∧ (∀ i, vid y i → vid x i ∨ st.ctr ≤ i) ∧ ∀ i, i < st.ctr → ¬ vid x i → st'.box.get i = st.box.get i := by
 obtain ⟨hsrc, hone⟩ := hm
 have h0 : Nat.beq 1 0 = false := rfl
 by_cases hme : m.length = 0
 ·obtain rfl := List.length_eq_zero_iff.1 hme
  refine ⟨x, st, ?_, .refl _ _, by rw [List.append_nil]; exact h, fun i hi => .inl hi, fun _ _ _ => rfl⟩
  cases h with
  | nils => simp only [QX, hT, hi, hs, hzv, hsrc, J6]; rfl
  | ms id n cap cs fl hlo hid hb hn hcap =>
   have h1 : Nat.ble (0 + n * 1) cs.length = true := Nat.ble_eq_true_of_le (by omega)
   simp only [QX, hT, hi, hs, hzv, hsrc, J6, hb, h1]; rfl
 ·have hmb : Nat.beq m.length 0 = false := by rw [JiE]; exact decide_eq_false hme
  have q1 : Nat.ble ((l.length + m.length) * i.bytes) JH = true := Nat.ble_eq_true_of_le hb1
  have q2 : Nat.ble (l.length + m.length) JH = true := Nat.ble_eq_true_of_le hb2
  have q3 : Nat.beq z.cells.length 1 = true := by rw [hzc]; rfl
  have knew : ∀ (cs : List V) (b : Tr Bx), (∀ id, id < lo → b.get id = st.box.get id) → Low lo st { ctr := st.ctr + 1, box := b.put st.ctr (.cells cs e false (some 0)) } := fun cs b hbx => ⟨Nat.le_succ _, fun id hid => by
   show (b.put st.ctr _).get id = _
   rw [Tr.get_put, if_neg (by omega)]; exact hbx id hid⟩
  have mnew : ∀ (b : Tr Bx), Mine lo e { ctr := st.ctr + 1, box := b.put st.ctr (.cells (l ++ m) e false (some 0)) } (.ms st.ctr 0 (l.length + m.length) 1 none) (l ++ m) := fun b => by
   have := Mine.ms (lo := lo) (e := e) (st := { ctr := st.ctr + 1, box := b.put st.ctr (.cells (l ++ m) e false (some 0)) }) st.ctr (l.length + m.length) none (l ++ m) false hlo (Nat.lt_succ_self _) (by show (b.put st.ctr _).get _ = _; rw [Tr.get_put, if_pos rfl]) (by simp) (fun c hc => by cases hc)
   rwa [List.take_of_length_le (by simp)] at this
  cases h with
  | nils =>
   refine ⟨.ms st.ctr 0 ([].length + m.length) 1 none, { ctr := st.ctr + 1, box := st.box.put st.ctr (.cells ([] ++ m) e false (some 0)) }, ?_, knew _ _ fun _ _ => rfl, mnew _, fun i hi => .inr (Nat.le_of_eq (show i = st.ctr from hi).symm), fun i hi _ => by show (st.box.put st.ctr _).get i = _; rw [Tr.get_put, if_neg (by omega)]⟩
   simp only [QX, hT, hi, hs, h0, hzv, hsrc, J6, hmb, q3, hone]
   rw [show Nat.ble ((0 + m.length) * i.bytes) JH = true from q1, show Nat.ble (0 + m.length) JH = true from q2]
   simp
  | ms id n cap cs fl hlo' hid hb hn hcap =>
   have h1 : Nat.ble (0 + n * 1) cs.length = true := Nat.ble_eq_true_of_le (by omega)
   have hlen : (cs.take n).length = n := by simp [Nat.min_eq_left hn]
   have hsub : sub cs 0 (n * 1) = cs.take n := by simp [sub]
   have e1 : Nat.beq 1 1 = true := rfl
   rw [hlen] at q1 q2 mnew
   have hgen : ∀ y st', (match JaQ cs.length 0 n m.length 1 cap with
     | .here => (match Nat.ble (0 + (n + m.length) * 1) cs.length && JdH (some 0) (0 + n * 1) with
      | true => some (V.ms id 0 (n + m.length) 1 cap, { st with box := st.box.put id (.cells (over cs (0 + n * 1) m) e fl (some 0)) })
      | false => none)
     | .fresh => some (V.ms st.ctr 0 (n + m.length) 1 none, { ctr := st.ctr + 1, box := st.box.put st.ctr (.cells (cs.take n ++ m) e false (some 0)) })
     | .gone => (match JdH (some 0) (0 + n * 1) && Nat.beq e e with
      | true => some (V.ms st.ctr 0 (n + m.length) 1 none, { ctr := st.ctr + 1, box := (st.box.del id).put st.ctr (.cells (cs.take n ++ m) e false (JjI (some 0) 0)) })
      | false => none)) = some (y, st') → QX P st T (.ms id 0 n 1 cap) s = some (y, st') := fun y st' hh => by
    simp only [QX, hT, hi, hs, h0, hzv, hsrc, J6, hb, h1, hmb, q1, q2, q3, hone, hsub, Bool.and_self, e1]
    exact hh
   have hfz : JdH (some 0) (0 + n * 1) = true := Nat.ble_eq_true_of_le (Nat.zero_le _)
   have hee : Nat.beq e e = true := Nat.beq_refl e
   have here : n + m.length ≤ cs.length → (∀ c, cap = some c → n + m.length ≤ c) → (match Nat.ble (0 + (n + m.length) * 1) cs.length && JdH (some 0) (0 + n * 1) with
      | true => some (V.ms id 0 (n + m.length) 1 cap, ({ st with box := st.box.put id (.cells (over cs (0 + n * 1) m) e fl (some 0)) } : St))
      | false => none) = some (V.ms id 0 (n + m.length) 1 cap, { st with box := st.box.put id (.cells (over cs n m) e fl (some 0)) }) ∧
     Low lo st { st with box := st.box.put id (.cells (over cs n m) e fl (some 0)) } ∧ Mine lo e { st with box := st.box.put id (.cells (over cs n m) e fl (some 0)) } (.ms id 0 (n + m.length) 1 cap) (cs.take n ++ m) := fun hle hc => by
    have h2 : Nat.ble (0 + (n + m.length) * 1) cs.length = true := Nat.ble_eq_true_of_le (by omega)
    refine ⟨by rw [h2, hfz, show 0 + n * 1 = n from by omega]; rfl, ⟨Nat.le_refl _, fun i hi => by show (st.box.put id _).get i = _; rw [Tr.get_put, if_neg (by omega)]⟩, ?_⟩
    have := Mine.ms (lo := lo) (e := e) (st := { st with box := st.box.put id (.cells (over cs n m) e fl (some 0)) }) id (n + m.length) cap (over cs n m) fl hlo' hid (by show (st.box.put id _).get _ = _; rw [Tr.get_put, if_pos rfl]) (by rw [Ji7 _ _ _ hle]; exact hle) (fun c hc' => by rw [Ji7 _ _ _ hle]; exact ⟨hc c hc', (hcap c hc').2⟩)
    rwa [JlR _ _ _ hn] at this
   cases cap with
   | some c =>
    by_cases hc : n + m.length ≤ c
    ·obtain ⟨a1, a2, a3⟩ := here (by have := (hcap c rfl).2; omega) (fun c' hc' => by cases hc'; exact hc)
     refine ⟨_, _, hgen _ _ ?_, a2, a3, fun i hi => .inl hi, fun i hi hn => by show (st.box.put id _).get i = _; rw [Tr.get_put, if_neg (show ¬ i = id from hn)]⟩
     rw [show JaQ cs.length 0 n m.length 1 (some c) = .here from by simp only [JaQ, Nat.ble_eq_true_of_le hc]]
     exact a1
    ·refine ⟨_, _, hgen (.ms st.ctr 0 (n + m.length) 1 none) { ctr := st.ctr + 1, box := st.box.put st.ctr (.cells (cs.take n ++ m) e false (some 0)) } ?_, knew _ _ fun _ _ => rfl, mnew _, fun i hi => .inr (Nat.le_of_eq (show i = st.ctr from hi).symm), fun i hi _ => by show (st.box.put st.ctr _).get i = _; rw [Tr.get_put, if_neg (by omega)]⟩
     have hcb : Nat.ble (n + m.length) c = false := by
      cases hx : Nat.ble (n + m.length) c with
      | false => rfl
      | true => exact absurd (Nat.le_of_ble_eq_true hx) hc
     rw [show JaQ cs.length 0 n m.length 1 (some c) = .fresh from by simp only [JaQ, hcb]]
   | none =>
    by_cases hc : n + m.length ≤ cs.length
    ·obtain ⟨a1, a2, a3⟩ := here hc (fun c' hc' => by cases hc')
     refine ⟨_, _, hgen _ _ ?_, a2, a3, fun i hi => .inl hi, fun i hi hn => by show (st.box.put id _).get i = _; rw [Tr.get_put, if_neg (show ¬ i = id from hn)]⟩
     rw [show JaQ cs.length 0 n m.length 1 none = .here from by simp only [JaQ, Nat.ble_eq_true_of_le (show 0 + (n + m.length) * 1 ≤ cs.length by omega)]]
     exact a1
    ·refine ⟨_, _, hgen (.ms st.ctr 0 (n + m.length) 1 none) { ctr := st.ctr + 1, box := (st.box.del id).put st.ctr (.cells (cs.take n ++ m) e false (some 0)) } ?_, knew _ _ fun i hi => by rw [Tr.get_del, if_neg (by omega)], mnew _, fun i hi => .inr (Nat.le_of_eq (show i = st.ctr from hi).symm), fun i hi hn => by show ((st.box.del id).put st.ctr _).get i = _; rw [Tr.get_put, if_neg (by omega), Tr.get_del, if_neg (show ¬ i = id from hn)]⟩
     have hcb : Nat.ble (0 + (n + m.length) * 1) cs.length = false := by
      cases hx : Nat.ble (0 + (n + m.length) * 1) cs.length with
      | false => rfl
      | true => exact absurd (Nat.le_of_ble_eq_true hx) (by omega)
     rw [show JaQ cs.length 0 n m.length 1 none = .gone from by simp only [JaQ, hcb]]
     simp only [hfz, hee, Bool.and_self]
     rfl
theorem Mine.push {i : TypeInfo} {z : V} (hT : P.underlying T = some (.slice e)) (hi : P.info? e = some i) (hs : i.size = 1) (hzv : Q4 P e = some z) (hzc : z.cells.length = 1) {st : St} {x s : V} {l m : List V} {lo : Nat} (h : Mine lo e st x l)
  (hm : Jbo st s m) (hlo : lo ≤ st.ctr) (hb1 : (l.length + m.length) * i.bytes ≤ JH) (hb2 : l.length + m.length ≤ JH) :
  ∃ y st', QX P st T x s = some (y, st') ∧ Low lo st st' ∧ Mine lo e st' y (l ++ m) ∧ ∀ i, vid y i → vid x i ∨ st.ctr ≤ i := by
 obtain ⟨y, st', h1, h2, h3, h4, _⟩ := h.push2 hT hi hs hzv hzc hm hlo hb1 hb2
 exact ⟨y, st', h1, h2, h3, h4⟩
theorem Mine.len (hT : P.underlying T = some (.slice e)) {st : St} {x : V} {l : List V} {lo : Nat} (h : Mine lo e st x l) : Q2 P T x = some (.int .i64 (l.length : Int)) := by
 cases h with
 | nils => simp [Q2, hT]
 | ms id n cap cs fl hlo hid hb hn hcap => simp [Q2, hT, Nat.min_eq_left hn]
theorem Mine.mk {lo : Nat} {st : St} {id n : Nat} {cs : List V} {fl : Bool} (hlo : lo ≤ id) (hid : id < st.ctr) (hb : st.box.get id = some (.cells cs e fl (some 0))) (hn : cs.length = n) : Mine lo e st (.ms id 0 n 1 (some n)) cs := by
 have := Mine.ms (lo := lo) (e := e) (st := st) id n (some n) cs fl hlo hid hb (by omega) (fun c hc => by cases hc; omega)
 rwa [List.take_of_length_le (by omega)] at this
end Go.Vm
namespace Go.Vm
open Go Go.Proofs Go.Pa
attribute [local simp] OkG Qu QB OkD Qd Qn JS Jh Jn vop Ju JG ev evs toV Jm Fr.dsTo Fr.glTo Fr.toNone Jj Jk Jl Qj QN Jc JL Jv V.undef J5 JV Qo Qg Qh Qk Qp Qq JU J8 Qr Ql JX Qs JC JF JE Jz JM Jo JW J2 JbG JbH Jai Jbx Jeb Jec fg0 fg1 fg2 fg3 fg4 fg5
set_option maxRecDepth 100000 in
theorem i9 : ∃ i, Tryz.prog.info? 9 = some i ∧ i.size = 1 ∧ i.bytes ≤ 64 := ⟨_, rfl, by decide, by decide⟩
theorem zs9 : Q4 Tryz.prog 9 = some (.str ⟨0, 0⟩) := by kernel_rfl
theorem bs0 : Ja7 Tryz.prog 23 0 [] = some ([], 9, 1) := by kernel_rfl
theorem bs1 (s : S) : Ja7 Tryz.prog 23 1 [(0, .str s)] = some ([.str s], 9, 1) := by kernel_rfl
theorem Jds {st : St} {x s : V} {l m : List V} {lo : Nat} (h : Mine lo 9 st x l) (hm : Jbo st s m) (hlo : lo ≤ st.ctr) (hb : l.length + m.length ≤ 1000000) :
  ∃ y st', QX Tryz.prog st 23 x s = some (y, st') ∧ Low lo st st' ∧ Mine lo 9 st' y (l ++ m) ∧ ∀ i, vid y i → vid x i ∨ st.ctr ≤ i := by
 obtain ⟨i, hi, h1, h2⟩ := i9
 refine h.push Tryz.underlying23 hi h1 zs9 rfl hm hlo ?_ (by simp [JH]; omega)
 refine Nat.le_trans (Nat.mul_le_mul hb h2) (by simp [JH])
theorem JpR {st : St} {x : V} {l : List S} (hx : Vw st x l) : ∃ b, (∀ kk, Jd Tryz.prog kk .eql 23 x .nils = some (.bool b)) ∧ (b = true → l = []) := by
 cases hx with
 | nils => exact ⟨true, fun kk => by cases kk <;> kernel_rfl, fun _ => rfl⟩
 | sl l ex => exact ⟨false, fun kk => by simp only [Jd, Tryz.underlying23], fun h => by cases h⟩
 | ms => exact ⟨false, fun kk => by simp only [Jd, Tryz.underlying23], fun h => by cases h⟩
theorem Jih {lo : Nat} {st : St} {cs : List V} (hlo : lo ≤ st.ctr) : Mine lo 9 (st.new (.cells cs 9 true (some 0))) (.ms st.ctr 0 cs.length 1 (some cs.length)) cs :=
 Mine.mk hlo (Nat.lt_succ_self _) (by rw [Js, if_pos rfl]) rfl
def JaP (f : Fw) (n : Int) : S := match f.kids.findIdx? (fun k => decide (k = n)) with
 | some i => f.names.getD i ⟨0, 0⟩
 | none => ⟨0, 0⟩
def upOf (l : List Fw) (n : Nat) : Nat := (Jab l (n : Int)).toNat
def Jed (l : List Fw) : Nat → Nat → List S
 | 0, _ => []
 | d + 1, n => match n, l[upOf l n]? with
  | 0, _ => []
  | _, some f => Jed l d (upOf l n) ++ [JaP f (n : Int)]
  | _, none => []
def QV (l : List Fw) (n : Nat) : List S := Jed l (n + 1) n
def Jii (n : Int) (ks : List Int) (i : Nat) : Prop := ∀ j (h : j < ks.length), j < i → ks[j] ≠ n
theorem JhB {f : Fw} {n : Int} {i : Nat} (hi : i < f.kids.length) (h : Jii n f.kids i) (hn : f.kids[i] = n) (hl : i < f.names.length) : JaP f n = f.names[i] := by
 have h1 : f.kids.findIdx? (fun k => decide (k = n)) = some i := by
  rw [List.findIdx?_eq_some_iff_getElem]
  exact ⟨hi, by simp [hn], fun j hj => by have := h j (by omega) hj; simp [this]⟩
 unfold JaP
 rw [h1]
 exact Joa hl
theorem JlS {f : Fw} {n : Int} (h : Jii n f.kids f.kids.length) : JaP f n = ⟨0, 0⟩ := by
 have h1 : f.kids.findIdx? (fun k => decide (k = n)) = none := by
  rw [List.findIdx?_eq_none_iff]
  intro k hk
  obtain ⟨j, hj, rfl⟩ := List.getElem_of_mem hk
  simp [h j hj hj]
 unfold JaP
 rw [h1]
theorem Jbu {l : List Fw} (hm : MayF l) {m : Nat} (h1 : 1 ≤ m) (h2 : m < l.length) : upOf l m < m ∧ upOf l m < l.length ∧ Jab l (m : Int) = (upOf l m : Int) ∧ ∃ h : upOf l m < l.length, (m : Int) ∈ (l[upOf l m]'h).kids := by
 obtain ⟨j, hj, hk, ha⟩ := Jfb (hm.once m h1 h2)
 have := hm.kid j hj _ hk
 have e : upOf l m = j := by unfold upOf; rw [ha]; rfl
 rw [e]
 exact ⟨by omega, hj, ha, hj, hk⟩
theorem Jgl {l : List Fw} {d n : Nat} {f : Fw} (h : l[upOf l (n + 1)]? = some f) : Jed l (d + 1) (n + 1) = Jed l d (upOf l (n + 1)) ++ [JaP f ((n + 1 : Nat) : Int)] := by
 simp only [Jed, h]
theorem Jfc {l : List Fw} (hm : MayF l) : ∀ (d n : Nat), n < l.length → n < d → Jed l d n = Jed l (n + 1) n
 | 0, n, _, h => absurd h (Nat.not_lt_zero n)
 | d + 1, 0, _, _ => rfl
 | d + 1, n + 1, hn, h => by
  obtain ⟨u1, u2, _, _⟩ := Jbu hm (Nat.succ_le_succ (Nat.zero_le n)) hn
  have hl := List.getElem?_eq_getElem u2
  rw [Jgl hl, Jgl hl, Jfc hm d _ u2 (by omega), Jfc hm (n + 1) _ u2 u1]
theorem Jdt (l : List Fw) : QV l 0 = [] := rfl
theorem Jcj {l : List Fw} (hm : MayF l) {m : Nat} (h1 : 1 ≤ m) (h2 : m < l.length) : QV l m = QV l (upOf l m) ++ [JaP (l[upOf l m]'(Jbu hm h1 h2).2.1) (m : Int)] := by
 obtain ⟨u1, u2, _, _⟩ := Jbu hm h1 h2
 match m, h1 with
 | m + 1, _ =>
  have hl := List.getElem?_eq_getElem u2
  unfold QV
  rw [Jgl hl, Jfc hm (m + 1) _ u2 u1]
theorem Jc2 {l : List Fw} (hm : MayF l) : ∀ m, m < l.length → (QV l m).length ≤ m := by
 intro m
 induction m using Nat.strongRecOn with
 | _ m ih =>
  intro h
  by_cases h0 : m = 0
  ·subst h0; simp [Jdt]
  ·obtain ⟨u1, u2, _, _⟩ := Jbu hm (by omega) h
   rw [Jcj hm (by omega) h]
   have := ih _ u1 u2
   simp; omega
def placeE (may : Bool) (l : List Fw) (n : Int) : Nat := cond may (cond (decide (0 ≤ n) && decide (n < (l.length : Int))) 0 1) 4
def Jcu (may : Bool) (l : List Fw) (n : Int) : List S := cond (may && (decide (0 ≤ n) && decide (n < (l.length : Int)))) (QV l n.toNat) []
def Jkd (lo : Nat) (may : Bool) (l : List Fw) (n : Int) (st' : St) (v : V) : Prop := ∃ y, v = .tup [y, .int .i64 (placeE may l n : Int)] ∧ Mine lo 9 st' y ((Jcu may l n).map .str)
variable [Memo] [NY]
set_option maxRecDepth 100000 in
theorem JmN (gl : Gl) (st : St) (x : V) (l : List S) (hx : Vw st x l) (hl : l.length ≤ 1000) :
  Says Tryz.prog gl 91 [x] st (fun v st' => Mine st.ctr 9 st' v (l.map .str) ∧ Keep st st') := by
 refine Qa (NY.no _ rfl rfl rfl _ _) Tryz.func91 rfl (by kernel_rfl) fun R hR K gr gn => ?_
 generalize hfr : Jy gl [x] = fr
 have hF : Fs gl [(0, x)] fr := by subst hfr; simp [Fs]
 simp only [Fs] at hF
 clear hfr
 obtain ⟨b, hb, hbl⟩ := JpR hx
 refine Ks_ (Ka_ (gs := [none]) fun K1 gK => ?_)
 simp (disch := omega) []
 refine gK _ _ (Ks_ (Ks_ (Ka_ (gs := [none, none]) fun K1 gK => ?_)))
 simp (disch := omega) [hF, hb]
 refine gK _ _ ?_
 cases b with
 | true =>
  refine Kt_ (by simp (disch := omega) []) (Ks_ (Ka_ (gs := [none]) fun K1 gK => ?_))
  simp (disch := omega) []
  refine gK _ _ (Kq_ (gr _ _ ?_))
  simp [Jx, Tryz.f91, hF]
  refine hR _ _ ?_
  rw [hbl rfl]
  exact ⟨.nils, .refl _⟩
 | false =>
  refine Kf_ (by simp (disch := omega) []) ?_
  have hm0 := Jih (lo := st.ctr) (st := st) (cs := []) (Nat.le_refl _)
  have hk0 := (Keep.refl st).new' (.cells [] 9 true (some 0))
  obtain ⟨y, s2, ha, hl2, hm2, _⟩ := Jds hm0 (hx.keep hk0).srcs (by simp [J3]) (by simp; omega)
  simp only [List.length_nil] at ha
  have hfold : ({ ctr := st.ctr + 1, box := st.box.put st.ctr (.cells [] 9 true (some 0)) } : St) = st.new (.cells [] 9 true (some 0)) := rfl
  refine Kk_ (Ks_ (Ka_ (gs := [none, none, none, none]) fun K1 gK => ?_))
  simp (disch := omega) [hF, bs0, ha, hfold, JK, Jt, Qb, Tryz.underlying23]
  refine gK _ _ (Kq_ (gr _ _ ?_))
  simp [Jx, Tryz.f91, hF]
  refine hR _ _ ?_
  exact ⟨hm2, hl2.keep hk0 (Nat.le_refl _)⟩
set_option maxRecDepth 100000 in
theorem Job (gl : Gl) (st : St) (f : Fw) (n : Int) (hok : f.ok) (hs : f.small) (hlen : f.names.length = f.kids.length) :
  Says Tryz.prog gl 92 [.agg f.cells, .int .i64 n] st (fun v st' => v = .str (JaP f n) ∧ Keep st st') := by
 refine Qa (NY.no _ rfl rfl rfl _ _) Tryz.func92 rfl (by kernel_rfl) fun R hR K gr gn => ?_
 generalize hfr : Jy gl [.agg f.cells, .int .i64 n] = fr
 have hF : Fs gl [(0, .agg f.cells), (1, .int .i64 n)] fr := by subst hfr; simp [Fs]
 simp only [Fs] at hF
 clear hfr
 have ho := Fw.ones hok
 have hk1 := JaF st f
 have b1 := Ja2 st f
 have hct := Jdk st f
 have hnf : ({ ctr := st.ctr + 1, box := st.box.put st.ctr (.cells f.cells 47 true (some 0)) } : St) = Q9 st f := rfl
 have lk := hok.kids.len Tryz.underlying45
 have l2 := Jb (P := Tryz.prog) (off := 2) a23 z23 b1 rfl
 have l3 := Jb (P := Tryz.prog) (off := 3) a36 z36 b1 rfl
 have hvq : veq 1000000000 f.nv f.nv = true := Qi _ (by have := JaG hok.names; have := hs.names; omega)
 have hk60 := hs.kids
 have hks : ∀ {k : IntKind} {a : Int}, 0 ≤ a → a < (f.kids.length : Int) → Je Tryz.prog 45 f.kv (.int k a) = some (.cp (JcD iC f.kids a.toNat)) := fun h0 h1 => hok.kids.ix (z := 1) (fun _ _ => rfl) Tryz.underlying45 z3 h0 h1
 have hns : ∀ {k : IntKind} {a : Int}, 0 ≤ a → a < (f.names.length : Int) → Je Tryz.prog 23 f.nv (.int k a) = some (adr 1 f.nv a.toNat) := fun h0 h1 => (hok.names.vw st).ix Tryz.underlying23 z9 h0 h1
 refine Ks_ (Ka_ (gs := [none, none]) fun K1 gK => ?_)
 simp (disch := omega) [hF, ho, hnf, JK, V.cells, Qb]
 refine gK _ _ (Ks_ (Ks_ (Ka_ (gs := [none]) fun K1 gK => ?_)))
 simp (disch := omega) []
 refine gK _ _ ?_
 refine Kl_ (f.kids.length) (fun i fr st' => Fs gl [(1, .int .i64 n), (2, .ptr st.ctr 0), (5, .int .i64 (i : Int))] fr ∧ i ≤ f.kids.length ∧ st' = Q9 st f ∧ Jii n f.kids i) (0) (fun fr st' => Fs gl [] fr ∧ st' = Q9 st f ∧ Jii n f.kids f.kids.length) ?_ ?_ ?_ ?_
 ·exact ⟨by simp [Fs, hF], Nat.zero_le _, rfl, fun j _ h => absurd h (Nat.not_lt_zero j)⟩
 ·rintro i fr st' ⟨_, hi, hst, hno⟩
  omega
 ·as_aux_lemma =>
  clear hF
  rintro i fr st' ⟨hF, hi, hst, hno⟩ K1 gk1 gx1 go1
  simp only [Fs] at hF
  have gr1 := fun fr st h => go1 AE.ret fr st trivial (gr fr st h)
  subst hst
  refine Ks_ (Ks_ (Ka_ (gs := [none, none, none, none, none]) fun K1 gK => ?_))
  simp (disch := omega) [hF, lk, l3]
  refine gK _ _ ?_
  by_cases hlt : i < f.kids.length
  ·
   refine Kt_ (by simp (disch := omega) [hlt]) ?_
   have hin : i < f.names.length := by omega
   have hkd := fun st => ilp (st := st) hlt
   have hnd := (hok.names.vw (Q9 st f)).ld z9 a9 hin
   refine Kk_ (Ks_ ?_)
   refine Kb_ fun K2 gn2 gx2 go2 => ?_
   have gr2 := fun fr st h => go2 AE.ret fr st trivial (gr1 fr st h)
   refine Ks_ (Ka_ (gs := [none, none, none, none, none, none, none]) fun K1 gK => ?_)
   simp (disch := omega) [hF, hks, l3, hlt, hkd]
   refine gK _ _ ?_
   by_cases he : f.kids[i] = n
   ·
    refine Kt_ (by simp (disch := omega) [he]) (Ks_ (Ka_ (gs := [none, none, none, none, none, none]) fun K1 gK => ?_))
    simp (disch := omega) [hF, hns, l2, hnd, he]
    refine gK _ _ (Kq_ (gr2 _ _ ?_))
    simp [Jx, Tryz.f92, hF]
    refine hR _ _ ?_
    exact ⟨by rw [JhB hlt hno he hin], hk1⟩
   ·
    refine Kf_ (by simp (disch := omega) [he]) (Kk_ (gn2 _ _ (Ka_ (gs := [none, none, none]) fun K1 gK => ?_)))
    simp (disch := omega) [hF]
    refine gK _ _ ?_
    refine gk1 (i + 1) _ _ (by omega) ⟨by simp [Fs, hF], by omega, rfl, fun j hj hji => by (by_cases hjj : j = i; · subst hjj; exact he); exact hno j hj (by omega)⟩
  ·
   refine Kf_ (by simp (disch := omega) [hlt]) ?_
   exact Kx_ (gx1 _ _ ⟨by simp [Fs, hF, hlt], rfl, by rw [show f.kids.length = i from by omega]; exact hno⟩)
 ·as_aux_lemma =>
  clear hF
  rintro fr st' ⟨hF, hst, hno⟩
  simp only [Fs] at hF
  subst hst
  refine Ks_ (Ka_ (gs := [none]) fun K1 gK => ?_)
  simp (disch := omega) []
  refine gK _ _ (Kq_ (gr _ _ ?_))
  simp [Jx, Tryz.f92, hF]
  refine hR _ _ ?_
  exact ⟨by rw [JlS hno]; rfl, hk1⟩
set_option maxRecDepth 100000 in
theorem Jpa (gl : Gl) (st : St) (x : V) (l : List Fw) (n : Int) (hx : Row Fw.cells x l) (hok : ∀ f ∈ l, f.ok) (hs : ∀ f ∈ l, f.small) (hl : l.length ≤ 60) :
  Says Tryz.prog gl 73 [x, .int .i64 n] st (fun v st' => Jkd st.ctr (Jig l) l n st' v ∧ Keep st st') := by
 refine Qa (NY.no _ rfl rfl rfl _ _) Tryz.func73 rfl (by kernel_rfl) fun R hR K gr gn => ?_
 generalize hfr : Jy gl [x, .int .i64 n] = fr
 have hF : Fs gl [(0, x), (1, .int .i64 n)] fr := by subst hfr; simp [Fs]
 simp only [Fs] at hF
 clear hfr
 obtain ⟨v, s1, hc, rfl, hk1⟩ := Says.use (Jgj gl st x l hx hok hs hl)
 have hm := Jgk (l := l)
 have lx := hx.len Tryz.underlying22
 have hix : ∀ {k : IntKind} {a : Int}, 0 ≤ a → a < (l.length : Int) → Je Tryz.prog 22 x (.int k a) = some (.cp (JcD Fw.cells l a.toNat)) := fun h0 h1 => hx.ix (fun f _ => f.len6) Tryz.underlying22 z38 h0 h1
 generalize Jig l = M at hc hm hR
 refine Ks_ (Ka_ (gs := [none, none]) fun K1 gK => ?_)
 simp (disch := omega) []
 refine gK _ _ (Ks_ (Ks_ (Ka_ (gs := [none, none, none]) fun K1 gK => ?_)))
 simp (disch := omega) [hF, hc]
 refine gK _ _ ?_
 cases M with
 | true =>
  refine Kf_ (by simp (disch := omega) []) ?_
  have hmf := hm.1 rfl
  by_cases h0 : n < 0
  ·
   refine Kk_ (Ks_ (Ks_ (Ka_ (gs := [none, none, none, some (some 13, false), some (some 13, false), some (some 13, false), some (some 13, false), none]) fun K1 gK => ?_)))
   simp (disch := omega) [hF, h0, J1]
   refine gK _ _ (Kt_ (by simp (disch := omega) []) (Ks_ (Ka_ (gs := [none, none]) fun K1 gK => ?_)))
   simp (disch := omega) []
   refine gK _ _ (Kq_ (gr _ _ ?_))
   simp [Jx, Tryz.f73, hF]
   refine hR _ _ ?_
   exact ⟨⟨.nils, by simp [placeE, show ¬ 0 ≤ n by omega], by simp [Jcu, show ¬ 0 ≤ n by omega]; exact .nils⟩, hk1⟩
  ·
   by_cases h1 : (l.length : Int) ≤ n
   ·
    refine Kk_ (Ks_ (Ks_ (Ka_ (gs := [none, none, none, some (some 13, false), some (some 13, false), some (some 13, false), some (some 13, false), none]) fun K1 gK => ?_)))
    simp (disch := omega) [hF, lx, h0, h1, J1, JP]
    refine gK _ _ (Kt_ (by simp (disch := omega) []) (Ks_ (Ka_ (gs := [none, none]) fun K1 gK => ?_)))
    simp (disch := omega) []
    refine gK _ _ (Kq_ (gr _ _ ?_))
    simp [Jx, Tryz.f73, hF]
    refine hR _ _ ?_
    exact ⟨⟨.nils, by simp [placeE, show ¬ n < (l.length : Int) by omega], by simp [Jcu, show ¬ n < (l.length : Int) by omega]; exact .nils⟩, hk1⟩
   ·
    obtain ⟨n0, rfl⟩ := Int.eq_ofNat_of_zero_le (show 0 ≤ n by omega)
    have hn0 : n0 < l.length := by omega
    refine Kk_ (Ks_ (Ks_ (Ka_ (gs := [none, none, none, some (some 13, false), some (some 13, false), some (some 13, false), some (some 13, false), none]) fun K1 gK => ?_)))
    simp (disch := omega) [hF, lx, h0, h1, J1, JP]
    refine gK _ _ (Kf_ (by simp (disch := omega) []) (Kk_ (Ks_ (Ka_ (gs := [none]) fun K1 gK => ?_))))
    simp (disch := omega) []
    refine gK _ _ (Ks_ ?_)
    refine Kl_ (l.length) (fun i fr st' => ∃ (m : Nat) (y : V) (acc : List S), Fs gl [(0, x), (1, .int .i64 (m : Int)), (6, y)] fr ∧ m + i ≤ l.length ∧ m < l.length ∧ Mine st.ctr 9 st' y (acc.map .str) ∧ QV l n0 = QV l m ++ acc ∧ acc.length ≤ i ∧ Keep st st') (0) (fun fr st' => ∃ (y : V), Fs gl [(6, y)] fr ∧ Mine st.ctr 9 st' y ((QV l n0).map .str) ∧ Keep st st') ?_ ?_ ?_ ?_
    ·exact ⟨n0, .nils, [], by simp [Fs, hF], by omega, hn0, .nils, by simp, by simp, hk1⟩
    ·rintro i fr st' ⟨m, y, acc, _, hmi, hml, hmine, hpl, hal, hk⟩
     omega
    ·as_aux_lemma =>
     clear hF
     rintro i fr st' ⟨m, y, acc, hF, hmi, hml, hmine, hpl, hal, hk⟩ K3 gk3 gx3 go3
     simp only [Fs] at hF
     refine Ks_ (Ks_ (Ka_ (gs := [none, none]) fun K1 gK => ?_))
     simp (disch := omega) [hF]
     refine gK _ _ ?_
     by_cases hpos : 0 < m
     ·
      refine Kt_ (by simp (disch := omega) [hpos]) ?_
      obtain ⟨u1, u2, ha, u3, hmem⟩ := Jbu hmf hpos hml
      have hstep := Jcj hmf hpos hml
      obtain ⟨v, s2, hca, rfl, hs2⟩ := Says.use (Ji0 gl st' x l (m : Int) hx hok hs hl)
      rw [show s2 = st' from hs2, ha] at hca
      clear hs2
      have hfo := hok _ (List.getElem_mem u2)
      have hfs := hs _ (List.getElem_mem u2)
      obtain ⟨v, s3, hcn, rfl, hk3⟩ := Says.use (Job gl st' l[upOf l m] (m : Int) hfo hfs (Jdr (hmf.one _ u2)))
      have hk4 := (hk.trans hk3).new' (.cells [.str (JaP l[upOf l m] (m : Int))] 9 true (some 0))
      have hk34 := hk3.new' (.cells [.str (JaP l[upOf l m] (m : Int))] 9 true (some 0))
      have hm0 := Jih (lo := st.ctr) (st := s3) (cs := [.str (JaP l[upOf l m] (m : Int))]) (hk.trans hk3).ctr
      obtain ⟨y2, s5, hap, hl5, hm5, _⟩ := Jds hm0 ((hmine.keep hk34).src (JfZ acc)) (by have := (hk.trans hk3).ctr; simp [J3]; omega) (by simp; omega)
      simp only [List.length_cons, List.length_nil] at hap
      have hfold : ({ ctr := s3.ctr + 1, box := s3.box.put s3.ctr (.cells [.str (JaP l[upOf l m] (m : Int))] 9 true (some 0)) } : St) = s3.new (.cells [.str (JaP l[upOf l m] (m : Int))] 9 true (some 0)) := rfl
      refine Kk_ ?_
      refine Kb_ fun K4 gn4 gx4 go4 => ?_
      refine Ks_ (Ka_ (gs := [none, none, none, none]) fun K1 gK => ?_)
      simp (disch := omega) [hF, hpos, hca]
      refine gK _ _ (Ks_ (Ka_ (gs := [none, none, none, none, none, none, none, none, none, none]) fun K1 gK => ?_))
      simp (disch := omega) [hF, hix, flp, hcn, bs1, hfold, hap, JK, Jt, Qb, JN, Tryz.underlying23]
      refine gK _ _ (Ka_ (gs := [none, none]) fun K1 gK => ?_)
      simp (disch := omega) []
      refine gK _ _ (gn4 _ _ ?_)
      refine gk3 (i + 1) _ _ (by omega) ⟨upOf l m, y2, JaP l[upOf l m] (m : Int) :: acc, by simp [Fs, hF], by omega, u2, by simpa using hm5, by rw [hpl, hstep]; simp, by simp; omega, hl5.keep hk4 (Nat.le_refl _)⟩
     ·
      refine Kf_ (by simp (disch := omega) [hpos]) ?_
      exact Kx_ (gx3 _ _ ⟨y, by simp [Fs, hF, hpos], by rw [hpl, show m = 0 from by omega, Jdt]; exact hmine, hk⟩)
    ·as_aux_lemma =>
     clear hF
     rintro fr st' ⟨y, hF, hmine, hk⟩
     simp only [Fs] at hF
     refine Ks_ (Ka_ (gs := [none, none, none]) fun K1 gK => ?_)
     simp (disch := omega) [hF]
     refine gK _ _ (Kq_ (gr _ _ ?_))
     simp [Jx, Tryz.f73, hF]
     refine hR _ _ ?_
     exact ⟨⟨y, by simp [placeE, hn0], by simpa [Jcu, hn0] using hmine⟩, hk⟩
 | false =>
  refine Kt_ (by simp (disch := omega) []) (Ks_ (Ka_ (gs := [none, none]) fun K1 gK => ?_))
  simp (disch := omega) []
  refine gK _ _ (Kq_ (gr _ _ ?_))
  simp [Jx, Tryz.f73, hF]
  refine hR _ _ ?_
  exact ⟨⟨.nils, rfl, .nils⟩, hk1⟩
omit [Memo] [NY] in
theorem Jk4 : ∀ l : List Int, Jad (l.flatMap iC) = 2 * l.length + 1
 | [] => rfl
 | a :: l => by rw [List.flatMap_cons, show iC a ++ l.flatMap iC = .int .i64 a :: l.flatMap iC from rfl, Jad, Jk4 l]; simp only [vsz, List.length_cons]; omega
omit [Memo] [NY] in
theorem Jgm {x : V} {l : List Int} (h : Row iC x l) : vsz x ≤ 2 * l.length + 2 := by
 cases h with
 | nils => exact Nat.le_of_ble_eq_true rfl
 | sl l ex => show Jad (l.flatMap iC) + 1 ≤ _; rw [Jk4]; omega
omit [Memo] [NY] in
theorem JmO {f : Fw} (hok : f.ok) (hs : f.small) : veq 1000000000 (.agg f.cells) (.agg f.cells) = true := Qi _ (by
 have h1 := JaG hok.names
 have h2 := Jgm hok.kids
 have h3 := hs.names
 have h4 := hs.kids
 simp only [Fw.cells, vsz, Jad]
 omega)
end Go.Vm
