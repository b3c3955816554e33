/- Rules for walks: a frame as a row of slots, a call's contract, operations as equations with side conditions (found by omega). Facts by their places: rules for walks; which facts may be, by the program and by the document: plain. The fact at a place: by the program, by the document. Slices that a function has made itself: what is put behind them, what is written into them. Texts of one's own; the place of a fact, by the document; Less; Same of facts, by the document. -/
import Derived.Test.YtidnmhdlfofinaaGreatDoorPz0
import Derived.Test.YtidnmhdlfofinaaGreatDoorPz3
namespace Go.Vm
open Go
def Fs (gl : Gl) : List (Nat × V) → Fr → Prop
  | [], fr => fr.ds = [] ∧ fr.gl = gl
  | (k, v) :: r, fr => Fr.at fr k = v ∧ Fs gl r fr
def Sm (st st' : St) : Prop := st' = st
variable {P : Program} {rd : Option Nat} {fr : Fr} {st : St} {Q : AE → Fr → St → Prop}
def Says [Memo] (P : Program) (gl : Gl) (f : Nat) (args : List V) (st : St) (R : V → St → Prop) : Prop := ∃ v st', W P (.call gl f args) st = .call (.val v st') ∧ R v st'
theorem Says.use [Memo] {gl : Gl} {f : Nat} {args : List V} {R : V → St → Prop} (h : Says P gl f args st R) (hk : callable P f = true) : ∃ v st', vcall P (ihCall (W P)) gl f args st = .val v st' ∧ R v st' := by
  obtain ⟨v, st', h1, h2⟩ := h
  exact ⟨v, st', by rw [vcall_callable hk, ihCall_W h1], h2⟩
theorem Says.mono [Memo] {gl : Gl} {f : Nat} {args : List V} {R R' : V → St → Prop} (h : Says P gl f args st R) (k : ∀ v st', R v st' → R' v st') : Says P gl f args st R' := by
  obtain ⟨v, st', h1, h2⟩ := h
  exact ⟨v, st', h1, k _ _ h2⟩
def Ends (P : Program) (fn : Func) (R : V → St → Prop) (e : AE) (fr : Fr) (st : St) : Prop := (e = .ret ∨ e = .normal) ∧ fr.ds = [] ∧ ∃ vs, traverse (vresult P fr st) fn.results.toList = some vs ∧ R (tupled vs) st
theorem says [Memo] {gl : Gl} {f : Nat} {args : List V} {fn : Func} {c : Code} {R : V → St → Prop} (hn : (Memo.look f).run args st = none) (hf : P.funcs[f]? = some fn) (hb : fn.body = some c)
    (hs : (Nat.ble args.length fn.ntmps && slotsOk fn.ntmps c) = true) (h : DoR P none c (initFr gl args) st (Ends P fn R)) : Says P gl f args st R := call_ex hn hf hb hs h
theorem xOpsR_cut [Memo] {ops : Array Oper} (a : List Oper) : ∀ (b : List Oper) (fr : Fr) (st : St), xOps P (ihCall (W P)) rd ops (a ++ b) fr st =
    match xOps P (ihCall (W P)) rd ops a fr st with
    | .ok fr1 st1 => xOps P (ihCall (W P)) rd ops b fr1 st1
    | r => r := by
  induction a with
  | nil => intro b fr st; rfl
  | cons o r ih =>
    intro b fr st
    simp only [List.cons_append, xOps]
    cases vwanted ops fr o with
    | false => exact ih ..
    | true =>
      cases isDefer o.op with
      | false =>
        cases vop P (ihCall (W P)) fr st o.op with
        | val v st' => exact ih ..
        | panic v st' => rfl
        | fail w => rfl
      | true =>
        generalize vdefer P fr o.op = d
        cases rd with
        | some r => rfl
        | none => cases d with
          | none => rfl
          | some d => exact ih ..
section
variable {kk : Bool} {T : TypeId} {q : IntKind} {a b : Nat}
theorem nn_eql : vbin P kk .eql T (.int q (a : Int)) (.int q (b : Int)) = some (.bool (decide (a = b))) := vI_eql rfl
theorem nn_neq : vbin P kk .neq T (.int q (a : Int)) (.int q (b : Int)) = some (.bool (!decide (a = b))) := vI_neq rfl
theorem nn_lss : vbin P kk .lss T (.int q (a : Int)) (.int q (b : Int)) = some (.bool (decide (a < b))) := vI_lss rfl
theorem nn_leq : vbin P kk .leq T (.int q (a : Int)) (.int q (b : Int)) = some (.bool (decide (a ≤ b))) := vI_leq rfl
theorem nn_gtr : vbin P kk .gtr T (.int q (a : Int)) (.int q (b : Int)) = some (.bool (decide (b < a))) := vI_gtr rfl
theorem nn_geq : vbin P kk .geq T (.int q (a : Int)) (.int q (b : Int)) = some (.bool (decide (b ≤ a))) := vI_geq rfl
theorem nl_eql : vbin P kk .eql T (.int q (a : Int)) (.int q (no_index (OfNat.ofNat b : Int))) = some (.bool (decide (a = OfNat.ofNat b))) := vI_eql rfl
theorem nl_neq : vbin P kk .neq T (.int q (a : Int)) (.int q (no_index (OfNat.ofNat b : Int))) = some (.bool (!decide (a = OfNat.ofNat b))) := vI_neq rfl
theorem nl_lss : vbin P kk .lss T (.int q (a : Int)) (.int q (no_index (OfNat.ofNat b : Int))) = some (.bool (decide (a < OfNat.ofNat b))) := vI_lss rfl
theorem nl_leq : vbin P kk .leq T (.int q (a : Int)) (.int q (no_index (OfNat.ofNat b : Int))) = some (.bool (decide (a ≤ OfNat.ofNat b))) := vI_leq rfl
theorem nl_gtr : vbin P kk .gtr T (.int q (a : Int)) (.int q (no_index (OfNat.ofNat b : Int))) = some (.bool (decide (OfNat.ofNat b < a))) := vI_gtr rfl
theorem nl_geq : vbin P kk .geq T (.int q (a : Int)) (.int q (no_index (OfNat.ofNat b : Int))) = some (.bool (decide (OfNat.ofNat b ≤ a))) := vI_geq rfl
end
section
variable {kk : Bool} {T : TypeId} {k : IntKind} {a b : Int}
theorem vbin_mul : vbin P kk .mul T (.int k a) (.int k b) = some (.int k (k.wrap (a * b))) := by simp [vbin]
theorem vbin_quo (hb : b ≠ 0) : vbin P kk .quo T (.int k a) (.int k b) = some (.int k (k.wrap (a.tdiv b))) := by
  have h : vbin P kk .quo T (.int k a) (.int k b) = viaSem P (fun l => binOp .quo T (l.getD 0 undef) (l.getD 1 undef)) [.int k a, .int k b] := by simp [vbin]
  rw [h]
  have h2 : unSem P (binOp .quo T (.int k a) (.int k b)) = some (.int k (k.wrap (a.tdiv b))) := by
    simp only [binOp, Op.intDiv, ne_eq, not_true_eq_false, if_false, if_neg hb]
    rfl
  simp only [viaSem, traverse, ofV]
  show (match unSem P (binOp .quo T (.int k a) (.int k b)) with
    | some v => toV 6 v
    | none => none) = _
  rw [h2]
  rfl
theorem vbin_rem (hb : b ≠ 0) : vbin P kk .rem T (.int k a) (.int k b) = some (.int k (a.tmod b)) := by
  have h : vbin P kk .rem T (.int k a) (.int k b) = viaSem P (fun l => binOp .rem T (l.getD 0 undef) (l.getD 1 undef)) [.int k a, .int k b] := by simp [vbin]
  rw [h]
  have h2 : unSem P (binOp .rem T (.int k a) (.int k b)) = some (.int k (a.tmod b)) := by
    simp only [binOp, Op.intDiv, ne_eq, not_true_eq_false, if_false, if_neg hb]
    rfl
  simp only [viaSem, traverse, ofV]
  show (match unSem P (binOp .rem T (.int k a) (.int k b)) with
    | some v => toV 6 v
    | none => none) = _
  rw [h2]
  rfl
end
def adr (z : Nat) : V → Nat → V
  | .sl _ cs _, i => .cp (cs.drop (i * z))
  | .ms id off _ _ _, i => .ptr id (off + i * z)
  | _, _ => .undef
theorem asNat_pos {k : IntKind} {a : Int} (h : 0 ≤ a) : asNat (.int k a) = some a.toNat := by
  obtain ⟨n, rfl⟩ := Int.eq_ofNat_of_zero_le h
  rfl
theorem Vw.ix {T e : TypeId} (hT : P.underlying T = some (.slice e)) (hz : sizeT P e = some 1) {x : V} {l : List S} (hv : Vw st x l) {k : IntKind} {a : Int} (h0 : 0 ≤ a) (h1 : a < (l.length : Int)) :
    vindexAddr P T x (.int k a) = some (adr 1 x a.toNat) := by
  have h2 := asNat_pos (k := k) h0
  have hb : Nat.blt a.toNat l.length = true := by rw [blt_dec]; exact decide_eq_true (by omega)
  cases hv with
  | nils => simp at h1; omega
  | sl l ex => simp only [vindexAddr, hT, h2, hz, hb, adr]
  | ms id off cap cs e' fl fz l hbx hl hlt hid hcap => simp only [vindexAddr, hT, h2, hz, hb, adr]
theorem Vw.ld {e : TypeId} (hz : sizeT P e = some 1) (ha : isAggT P e = some false) {x : V} {l : List S} (hv : Vw st x l) {i : Nat} (hi : i < l.length) : vload P st e (adr 1 x i) = some (.str l[i]) := by
  have hg : l.getD i ⟨0, 0⟩ = l[i] := by rw [List.getD_eq_getElem?_getD, List.getElem?_eq_getElem hi]; rfl
  cases hv with
  | nils => simp at hi
  | sl l ex =>
    simp only [adr, vload, vpart, ha, hz, Nat.mul_one]
    simp [hi]
  | ms id off cap cs e' fl fz l hbx hl hlt hid hcap =>
    simp only [adr, vload, vpart, ha, hz, Nat.mul_one, hbx, hl i hi, hg]
end Go.Vm
namespace Go.Vm
open Go
def guardOf (ops : Array Oper) (o : Oper) : Option (Option Nat × Bool) :=
  match o.guard with
  | none => none
  | some (j, w) => some ((match ops[j]? with
    | some p => p.dst
    | none => none), w)
def wantG (fr : Fr) : Option (Option Nat × Bool) → Bool
  | none => true
  | some (none, _) => false
  | some (some d, w) => match Fr.at fr d with
    | .bool b => b == w
    | _ => false
theorem wantG_eq (ops : Array Oper) (fr : Fr) (o : Oper) : wantG fr (guardOf ops o) = vwanted ops fr o := by
  unfold guardOf vwanted
  cases o.guard with
  | none => rfl
  | some p =>
    obtain ⟨j, w⟩ := p
    simp only
    cases ops[j]? with
    | none => rfl
    | some q => cases hq : q.dst with
      | none => simp [wantG, hq]
      | some d => simp only [wantG, hq]; cases Fr.at fr d <;> rfl
def xOpsG (P : Program) (ih : CallF) (rd : Option Nat) : List (Option (Option Nat × Bool)) → List Oper → Fr → St → OR
  | g :: gs, o :: r, fr, st =>
    match wantG fr g with
    | true => match isDefer o.op with
      | false => match vop P ih fr st o.op with
        | .val v st' => xOpsG P ih rd gs r (Fr.to fr o.dst v) st'
        | .panic v st' => .panic v fr st'
        | .fail w => .fail (o.pos ++ ": " ++ w)
      | true => match rd, vdefer P fr o.op with
        | none, some d => xOpsG P ih rd gs r (Fr.to { fr with ds := d :: fr.ds } o.dst .undef) st
        | _, _ => .fail (o.pos ++ ": defer")
    | false => xOpsG P ih rd gs r (Fr.to fr o.dst .undef) st
  | _, _, fr, st => .ok fr st
theorem xOpsG_eq {P : Program} {ih : CallF} {rd : Option Nat} (ops : Array Oper) : ∀ (l : List Oper) (fr : Fr) (st : St), xOpsG P ih rd (l.map (guardOf ops)) l fr st = xOps P ih rd ops l fr st
  | [], fr, st => rfl
  | o :: r, fr, st => by
    have ih' := xOpsG_eq (P := P) (ih := ih) (rd := rd) ops r
    simp only [List.map_cons, xOpsG, xOps, wantG_eq]
    cases vwanted ops fr o with
    | false => exact ih' _ _
    | true =>
      simp only
      cases isDefer o.op with
      | false =>
        simp only
        cases vop P ih fr st o.op with
        | val v st' => exact ih' _ _
        | panic v st' => rfl
        | fail w => rfl
      | true =>
        simp only
        cases rd with
        | some q => rfl
        | none => cases vdefer P fr o.op with
          | none => rfl
          | some d => exact ih' _ _
def OkG [Memo] (P : Program) (rd : Option Nat) (gs : List (Option (Option Nat × Bool))) (l : List Oper) (fr : Fr) (st : St) (K : Fr → St → Prop) : Prop :=
  match xOpsG P (ihCall (W P)) rd gs l fr st with
  | .ok fr' st' => K fr' st'
  | _ => False
theorem xOpsG_cut {P : Program} {ih : CallF} {rd : Option Nat} (n : Nat) : ∀ (gs : List (Option (Option Nat × Bool))) (l : List Oper) (fr : Fr) (st : St), gs.length = l.length → xOpsG P ih rd gs l fr st =
    match xOpsG P ih rd (gs.take n) (l.take n) fr st with
    | .ok fr1 st1 => xOpsG P ih rd (gs.drop n) (l.drop n) fr1 st1
    | r => r := by
  induction n with
  | zero => intro gs l fr st _; simp [xOpsG]
  | succ n ihn =>
    intro gs l fr st h
    cases gs with
    | nil => cases l with
      | nil => simp [xOpsG]
      | cons o r => simp at h
    | cons g gs => cases l with
     | nil => simp at h
     | cons o r =>
      have ih' := fun fr st => ihn gs r fr st (by simpa using h)
      simp only [List.take_succ_cons, List.drop_succ_cons, xOpsG]
      cases wantG fr g with
      | false => exact ih' _ _
      | true =>
        simp only
        cases isDefer o.op with
        | false =>
          simp only
          cases vop P ih fr st o.op with
          | val v st' => exact ih' _ _
          | panic v st' => rfl
          | fail w => rfl
        | true =>
          simp only
          cases rd with
          | some q => rfl
          | none => cases vdefer P fr o.op with
            | none => rfl
            | some d => exact ih' _ _
theorem OkG.cut [Memo] {P : Program} {rd : Option Nat} {gs : List (Option (Option Nat × Bool))} {l : List Oper} {fr : Fr} {st : St} {Q : Fr → St → Prop} (n : Nat) (R : Fr → St → Prop) (hlen : Nat.beq gs.length l.length = true) (h : OkG P rd (gs.take n) (l.take n) fr st R)
    (k : ∀ fr' st', R fr' st' → OkG P rd (gs.drop n) (l.drop n) fr' st' Q) : OkG P rd gs l fr st Q := by
  unfold OkG at h ⊢
  rw [xOpsG_cut n gs l fr st (Nat.eq_of_beq_eq_true hlen)]
  cases hx : xOpsG P (ihCall (W P)) rd (gs.take n) (l.take n) fr st with
  | ok fr1 st1 => rw [hx] at h; exact k fr1 st1 h
  | panic v fr1 st1 => rw [hx] at h; exact h.elim
  | fail w => rw [hx] at h; exact h.elim
theorem OkG.cutK [Memo] {P : Program} {rd : Option Nat} {gs : List (Option (Option Nat × Bool))} {l : List Oper} {fr : Fr} {st : St} {Q : Fr → St → Prop} (n : Nat) (M : Fr → St → Prop) (hlen : Nat.beq gs.length l.length = true)
    (h : ∀ K : Fr → St → Prop, (∀ fr' st', M fr' st' → K fr' st') → OkG P rd (gs.take n) (l.take n) fr st K)
    (k : ∀ fr' st', M fr' st' → OkG P rd (gs.drop n) (l.drop n) fr' st' Q) : OkG P rd gs l fr st Q := OkG.cut n M hlen (h M fun _ _ h => h) k
end Go.Vm
namespace Go.Vm
open Go
section
variable [Memo] {P : Program} {rd : Option Nat} {fr : Fr} {st : St} {Q : AE → Fr → St → Prop}
def DoK [Memo] (P : Program) (rd : Option Nat) : List Code → Fr → St → (AE → Fr → St → Prop) → Prop
  | [], fr, st, Q => Q .normal fr st
  | c :: k, fr, st, Q => DoR P rd c fr st (andThen (fun fr st => DoK P rd k fr st Q) Q)
theorem DoK.seq {a b : Code} {k : List Code} (h : DoK P rd (a :: b :: k) fr st Q) : DoK P rd (.seq a b :: k) fr st Q := by
  refine DoR.seq (DoR.mono h fun e fr' st' h => ?_)
  cases e with
  | normal => exact h
  | exit id => exact h
  | ret => exact h
  | panic v => exact h
theorem DoK.skip {k : List Code} (h : DoK P rd k fr st Q) : DoK P rd (.skip :: k) fr st Q := DoR.skip h
theorem DoK.ret {k : List Code} (h : Q .ret fr st) : DoK P rd (.ret :: k) fr st Q := DoR.ret h
theorem DoK.exit {id : Nat} {k : List Code} (h : Q (.exit id) fr st) : DoK P rd (.exit id :: k) fr st Q := DoR.exit h
theorem DoK.condT {x : Operand} {a b : Code} {k : List Code} (hx : ev fr x = some (.bool true)) (h : DoK P rd (a :: k) fr st Q) : DoK P rd (.cond x a b :: k) fr st Q := DoR.condT hx h
theorem DoK.condF {x : Operand} {a b : Code} {k : List Code} (hx : ev fr x = some (.bool false)) (h : DoK P rd (b :: k) fr st Q) : DoK P rd (.cond x a b :: k) fr st Q := DoR.condF hx h
theorem DoK.reg {id : Nat} {ops : Array Oper} {k : List Code} (h : ∀ K : Fr → St → Prop, (∀ fr' st', DoK P rd k fr' st' Q → K fr' st') → OkR P rd ops ops.toList fr st K) : DoK P rd (.region id ops false :: k) fr st Q :=
  DoR.region (h _ fun _ _ h => h)
theorem DoK.regG {id : Nat} {ops : Array Oper} {k : List Code} {gs : List (Option (Option Nat × Bool))} (hg : ops.toList.map (guardOf ops) = gs) (h : ∀ K : Fr → St → Prop, (∀ fr' st', DoK P rd k fr' st' Q → K fr' st') → OkG P rd gs ops.toList fr st K) : DoK P rd (.region id ops false :: k) fr st Q := by
  refine DoK.reg fun K hK => ?_
  have := h K hK
  unfold OkG at this
  rw [← hg, xOpsG_eq] at this
  exact this
theorem DoK.draw {id : Nat} {ops : Array Oper} {k : List Code} {b l : List Nat} (hb : befores ops = b) (hl : plan P ops b = l) (hp : planOk P ops b l = true)
    (h : ∀ K : Fr → St → Prop, (∀ fr' st', DoK P rd k fr' st' Q → K fr' st') →
      match xDraw P (ihCall (W P)) ops b st.ctr l { fr := fr, st := { st with ctr := st.ctr + ops.size }, snaps := [(ops.size, { st with ctr := st.ctr + ops.size })] } with
      | some d => K d.fr d.st
      | none => False) : DoK P rd (.region id ops true :: k) fr st Q :=
  DoR.draw hb hl hp (h _ fun _ _ h => h)
def xDrawL (P : Program) (ih : CallF) (ops : Array Oper) (b : List Nat) (c0 : Nat) : List Oper → Nat → Drw → Option Drw
  | [], _, d => some d
  | o :: r, i, d => match vwanted ops d.fr o with
    | false => xDrawL P ih ops b c0 r (i + 1) { fr := Fr.to d.fr o.dst .undef, st := d.st, snaps := (match kindOf P o.op with | .e => (i, d.st) :: d.snaps | _ => d.snaps) }
    | true =>
      match kindOf P o.op with
      | .p => match vpure P d.fr d.st o.op with
        | some v => xDrawL P ih ops b c0 r (i + 1) { d with fr := Fr.to d.fr o.dst v }
        | none => none
      | .r => match d.snaps with
        | (_, s0) :: _ => match vpure P d.fr s0 o.op with
          | some v => match sameIn P d.fr o.op v (b.getD i 0) d.snaps with
            | true => xDrawL P ih ops b c0 r (i + 1) { d with fr := Fr.to d.fr o.dst v }
            | false => none
          | none => none
        | [] => none
      | .a => match valloc P d.fr o.op with
        | some (cs, e, n) => match cs.all oneC with
          | true => xDrawL P ih ops b c0 r (i + 1) { fr := Fr.to d.fr o.dst (mkRef (c0 + i) n), st := { d.st with box := d.st.box.put (c0 + i) (.cells cs e true (some 0)) }, snaps := d.snaps }
          | false => none
        | none => none
      | .e => match veff P ih d.fr d.st o.op with
        | .val v st' => xDrawL P ih ops b c0 r (i + 1) { fr := Fr.to d.fr o.dst v, st := st', snaps := (i, st') :: d.snaps }
        | _ => none
omit [Memo] in
theorem xDrawL_eq {P : Program} {ih : CallF} {ops : Array Oper} {b : List Nat} {c0 : Nat} : ∀ (l : List Oper) (i : Nat) (d : Drw), ops.toList.drop i = l → xDraw P ih ops b c0 (List.range' i l.length) d = xDrawL P ih ops b c0 l i d
  | [], i, d, _ => rfl
  | o :: r, i, d, h => by
    have ho : ops[i]? = some o := by
      have := congrArg (fun l => l[0]?) h
      simpa [List.getElem?_drop] using this
    have hr : ops.toList.drop (i + 1) = r := by
      have := congrArg (fun l => l.drop 1) h
      simpa [List.drop_drop] using this
    have ih' : ∀ d, xDraw P ih ops b c0 (List.range' (i + 1) r.length) d = xDrawL P ih ops b c0 r (i + 1) d := fun d => xDrawL_eq r (i + 1) d hr
    simp only [List.length_cons, List.range'_succ, xDraw, xStep, ho, xDrawL]
    cases vwanted ops d.fr o with
    | false => simp only [ih']; cases kindOf P o.op <;> rfl
    | true =>
      simp only
      cases kindOf P o.op with
      | p =>
        simp only
        cases vpure P d.fr d.st o.op with
        | none => rfl
        | some v => simp only [ih']
      | r =>
        simp only
        cases hs : d.snaps with
        | nil => rfl
        | cons s sn =>
          simp only
          cases vpure P d.fr s.2 o.op with
          | none => rfl
          | some v =>
            simp only
            cases sameIn P d.fr o.op v (b.getD i 0) (s :: sn) with
            | true => simp only [ih']
            | false => rfl
      | a =>
        simp only
        cases valloc P d.fr o.op with
        | none => rfl
        | some v =>
          simp only
          cases v.1.all oneC with
          | true => simp only [ih']
          | false => rfl
      | e =>
        simp only
        cases veff P ih d.fr d.st o.op with
        | val v st' => simp only [ih']
        | panic v st' => rfl
        | fail w => rfl
def OkD [Memo] (P : Program) (ops : Array Oper) (b : List Nat) (c0 : Nat) (l : List Oper) (i : Nat) (fr : Fr) (st : St) (snaps : List (Nat × St)) (K : Fr → St → Prop) : Prop :=
  match xDrawL P (ihCall (W P)) ops b c0 l i { fr := fr, st := st, snaps := snaps } with
  | some d => K d.fr d.st
  | none => False
theorem DoK.drawL {id : Nat} {ops : Array Oper} {k : List Code} {b : List Nat} (hb : befores ops = b) (hl : plan P ops b = List.range' 0 ops.toList.length) (hp : planOk P ops b (List.range' 0 ops.toList.length) = true)
    (h : ∀ K : Fr → St → Prop, (∀ fr' st', DoK P rd k fr' st' Q → K fr' st') →
      OkD P ops b st.ctr ops.toList 0 fr { ctr := st.ctr + ops.size, box := st.box } [(ops.size, { ctr := st.ctr + ops.size, box := st.box })] K) : DoK P rd (.region id ops true :: k) fr st Q := by
  refine DoK.draw hb hl hp fun K hK => ?_
  rw [xDrawL_eq ops.toList 0 _ rfl]
  exact h K hK
omit [Memo] in
theorem xDraw_app {P : Program} {ih : CallF} {ops : Array Oper} {b : List Nat} {c0 : Nat} : ∀ (l m : List Nat) (d : Drw), xDraw P ih ops b c0 (l ++ m) d = match xDraw P ih ops b c0 l d with
    | some d' => xDraw P ih ops b c0 m d'
    | none => none
  | [], m, d => rfl
  | i :: l, m, d => by
    simp only [List.cons_append, xDraw]
    cases xStep P ih ops b c0 i d with
    | none => rfl
    | some d' => exact xDraw_app l m d'
omit [Memo] in
theorem xDrawL_take {P : Program} {ih : CallF} {ops : Array Oper} {b : List Nat} {c0 : Nat} (a n : Nat) (h : a + n ≤ ops.toList.length) (d : Drw) : xDraw P ih ops b c0 (List.range' a n) d = xDrawL P ih ops b c0 ((ops.toList.drop a).take n) a d := by
  have key : ∀ (n i : Nat) (l : List Oper) (d : Drw), (∀ j (hj : j < l.length), ops[i + j]? = some l[j]) → l.length = n → xDraw P ih ops b c0 (List.range' i n) d = xDrawL P ih ops b c0 l i d := by
    intro n
    induction n with
    | zero =>
      intro i l d _ hl
      obtain rfl := List.length_eq_zero_iff.1 hl
      rfl
    | succ n ihn =>
      intro i l d hg hl
      match l, hl with
      | o :: r, hl =>
        have ho : ops[i]? = some o := hg 0 (by simp)
        have ih' : ∀ d, xDraw P ih ops b c0 (List.range' (i + 1) n) d = xDrawL P ih ops b c0 r (i + 1) d := fun d => ihn (i + 1) r d (fun j hj => by
          have := hg (j + 1) (by simpa using hj)
          rw [show i + 1 + j = i + (j + 1) from by omega, this]
          rfl) (by simpa using hl)
        simp only [List.range'_succ, xDraw, xStep, ho, xDrawL]
        cases vwanted ops d.fr o with
        | false => simp only [ih']; cases kindOf P o.op <;> rfl
        | true =>
          simp only
          cases kindOf P o.op with
          | p =>
            simp only
            cases vpure P d.fr d.st o.op with
            | none => rfl
            | some v => simp only [ih']
          | r =>
            simp only
            cases hs : d.snaps with
            | nil => rfl
            | cons s sn =>
              simp only
              cases vpure P d.fr s.2 o.op with
              | none => rfl
              | some v =>
                simp only
                cases sameIn P d.fr o.op v (b.getD i 0) (s :: sn) with
                | true => simp only [ih']
                | false => rfl
          | a =>
            simp only
            cases valloc P d.fr o.op with
            | none => rfl
            | some v =>
              simp only
              cases v.1.all oneC with
              | true => simp only [ih']
              | false => rfl
          | e =>
            simp only
            cases veff P ih d.fr d.st o.op with
            | val v st' => simp only [ih']
            | panic v st' => rfl
            | fail w => rfl
  refine key n a _ d (fun j hj => ?_) (by simp at h ⊢; omega)
  simp at hj
  simp
def runsOf (rs : List (Nat × Nat)) : List Nat := rs.flatMap fun r => List.range' r.1 r.2
def OkRuns [Memo] (P : Program) (ops : Array Oper) (b : List Nat) (c0 : Nat) : List (Nat × Nat) → Drw → (Fr → St → Prop) → Prop
  | [], d, K => K d.fr d.st
  | r :: rs, d, K => match xDrawL P (ihCall (W P)) ops b c0 ((ops.toList.drop r.1).take r.2) r.1 d with
    | some d' => OkRuns P ops b c0 rs d' K
    | none => False
theorem OkRuns_eq {P : Program} {ops : Array Oper} {b : List Nat} {c0 : Nat} {K : Fr → St → Prop} : ∀ (rs : List (Nat × Nat)) (d : Drw), (rs.all fun r => Nat.ble (r.1 + r.2) ops.toList.length) = true → OkRuns P ops b c0 rs d K →
    match xDraw P (ihCall (W P)) ops b c0 (runsOf rs) d with
    | some d => K d.fr d.st
    | none => False
  | [], d, _, h => h
  | r :: rs, d, hr, h => by
    simp only [List.all_cons, Bool.and_eq_true] at hr
    simp only [OkRuns] at h
    show match xDraw P (ihCall (W P)) ops b c0 (List.range' r.1 r.2 ++ runsOf rs) d with
      | some d => K d.fr d.st
      | none => False
    rw [xDraw_app, xDrawL_take _ _ (Nat.le_of_ble_eq_true hr.1)]
    cases hx : xDrawL P (ihCall (W P)) ops b c0 ((ops.toList.drop r.1).take r.2) r.1 d with
    | none => rw [hx] at h; exact h.elim
    | some d' => rw [hx] at h; exact OkRuns_eq rs d' hr.2 h
theorem DoK.drawR {id : Nat} {ops : Array Oper} {k : List Code} {b : List Nat} {rs : List (Nat × Nat)} (hb : befores ops = b) (hl : plan P ops b = runsOf rs) (hp : planOk P ops b (runsOf rs) = true) (hr : (rs.all fun r => Nat.ble (r.1 + r.2) ops.toList.length) = true)
    (h : ∀ K : Fr → St → Prop, (∀ fr' st', DoK P rd k fr' st' Q → K fr' st') →
      OkRuns P ops b st.ctr rs { fr := fr, st := { ctr := st.ctr + ops.size, box := st.box }, snaps := [(ops.size, { ctr := st.ctr + ops.size, box := st.box })] } K) : DoK P rd (.region id ops true :: k) fr st Q := by
  refine DoK.draw hb hl hp fun K hK => ?_
  exact OkRuns_eq rs _ hr (h K hK)
theorem DoK.gen {c : List Code} (M : Fr → Prop) (h : M fr) (k : ∀ fr, M fr → DoK P rd c fr st Q) : DoK P rd c fr st Q := k fr h
def Aside (id : Nat) : AE → Prop
  | .normal => False
  | .exit j => j ≠ id
  | _ => True
theorem DoK.block {id : Nat} {b : Code} {k : List Code}
    (h : ∀ K : AE → Fr → St → Prop, (∀ fr' st', DoK P rd k fr' st' Q → K .normal fr' st') → (∀ fr' st', DoK P rd k fr' st' Q → K (.exit id) fr' st') → (∀ e fr' st', Aside id e → Q e fr' st' → K e fr' st') → DoK P rd [b] fr st K) :
    DoK P rd (.block id b :: k) fr st Q := by
  refine DoR.block (DoR.mono (h (fun e fr st => inBlock id (andThen (fun fr st => DoK P rd k fr st Q) Q) e fr st) ?_ ?_ ?_) fun e fr' st' h => ?_)
  · intro fr' st' h; exact h
  · intro fr' st' h; simp only [inBlock, if_true]; exact h
  · intro e fr' st' ha h
    cases e with
    | normal => exact ha.elim
    | exit j => simp only [inBlock]; rw [if_neg ha]; exact h
    | ret => exact h
    | panic v => exact h
  · cases e with
    | normal => exact h
    | exit id => exact h
    | ret => exact h
    | panic v => exact h
theorem DoK.loop {id : Nat} {b : Code} {k : List Code} (N : Nat) (I : Nat → Fr → St → Prop) (i0 : Nat) (M : Fr → St → Prop) (h0 : I i0 fr st) (hb : ∀ i fr st, I i fr st → i ≤ N)
    (step : ∀ i fr st, I i fr st → ∀ K : AE → Fr → St → Prop, (∀ j fr' st', i < j → I j fr' st' → K .normal fr' st') → (∀ fr' st', M fr' st' → K (.exit id) fr' st') → (∀ e fr' st', Aside id e → Q e fr' st' → K e fr' st') → DoK P rd [b] fr st K)
    (tail : ∀ fr' st', M fr' st' → DoK P rd k fr' st' Q) : DoK P rd (.block id (.loop b) :: k) fr st Q := by
  refine DoR.block (DoR.up N I i0 h0 hb fun i fr1 st1 hi => ?_)
  refine DoR.mono (step i fr1 st1 hi (fun e fr st => andThen (fun fr' st' => ∃ j, i < j ∧ I j fr' st') (inBlock id (andThen (fun fr st => DoK P rd k fr st Q) Q)) e fr st) ?_ ?_ ?_) fun e fr' st' h => ?_
  · intro j fr' st' hj h; exact ⟨j, hj, h⟩
  · intro fr' st' h; simp only [andThen, inBlock, if_true]; exact tail _ _ h
  · intro e fr' st' ha h
    cases e with
    | normal => exact ha.elim
    | exit j => simp only [andThen, inBlock]; rw [if_neg ha]; exact h
    | ret => exact h
    | panic v => exact h
  · cases e with
    | normal => exact h
    | exit id => exact h
    | ret => exact h
    | panic v => exact h
def Aside' : AE → Prop
  | .normal => False
  | _ => True
theorem DoK.mid {a : Code} {k : List Code} (M : Fr → St → Prop)
    (h : ∀ K : AE → Fr → St → Prop, (∀ fr' st', M fr' st' → K .normal fr' st') → (∀ e fr' st', Aside' e → Q e fr' st' → K e fr' st') → DoK P rd [a] fr st K)
    (tail : ∀ fr' st', M fr' st' → DoK P rd k fr' st' Q) : DoK P rd (a :: k) fr st Q := by
  refine DoR.mono (h (fun e fr st => andThen (fun fr st => DoK P rd k fr st Q) Q e fr st) (fun _ _ h => tail _ _ h) ?_) fun e fr' st' h => ?_
  · intro e fr' st' ha h
    cases e with
    | normal => exact ha.elim
    | exit j => exact h
    | ret => exact h
    | panic v => exact h
  · cases e with
    | normal => exact h
    | exit id => exact h
    | ret => exact h
    | panic v => exact h
theorem saysK {gl : Gl} {f : Nat} {args : List V} {fn : Func} {c : Code} {R : V → St → Prop} (hn : (Memo.look f).run args st = none) (hf : P.funcs[f]? = some fn) (hb : fn.body = some c)
    (hs : (Nat.ble args.length fn.ntmps && slotsOk fn.ntmps c) = true)
    (h : ∀ R' : V → St → Prop, (∀ v st', R v st' → R' v st') → ∀ K : AE → Fr → St → Prop, (∀ fr st, Ends P fn R' .ret fr st → K .ret fr st) → (∀ fr st, Ends P fn R' .normal fr st → K .normal fr st) → DoK P none [c] (initFr gl args) st K) : Says P gl f args st R := by
  refine says hn hf hb hs (DoR.mono (h R (fun _ _ h => h) (Ends P fn R) (fun _ _ h => h) (fun _ _ h => h)) fun e fr' st' h => ?_)
  cases e with
  | normal => exact h
  | exit id => exact h
  | ret => exact h
  | panic v => exact h
end
theorem vload_ctr {P : Program} {st : St} {c : Nat} {T : TypeId} {a : V} : vload P { ctr := st.ctr + c, box := st.box } T a = vload P st T a := by cases a <;> rfl
theorem new_get {st : St} {x : Bx} {i : Nat} : (st.new x).box.get i = if i = st.ctr then some x else st.box.get i := Tr.get_put ..
theorem put_get {st : St} {x : Bx} {j i : Nat} : (st.put j x).box.get i = if i = j then some x else st.box.get i := Tr.get_put ..
theorem new_ctr {st : St} {x : Bx} : (st.new x).ctr = st.ctr + 1 := rfl
theorem put_ctr {st : St} {x : Bx} {j : Nat} : (st.put j x).ctr = st.ctr := rfl
theorem Keep.new' {a b : St} (h : Keep a b) (x : Bx) : Keep a (b.new x) := h.new x
theorem Keep.put' {a b : St} (h : Keep a b) {id : Nat} (hid : a.ctr ≤ id) (x : Bx) : Keep a (b.put id x) := h.put hid x
end Go.Vm
namespace Go.Vm
open Go Go.Proofs Go.Pa
def radr {α : Type} (f : α → List V) (l : List α) (i : Nat) : List V := (l.drop i).flatMap f
theorem radr_at {α : Type} {f : α → List V} {l : List α} {i : Nat} (h : i < l.length) : radr f l i = f l[i] ++ radr f l (i + 1) := by
  unfold radr
  rw [List.drop_eq_getElem_cons h, List.flatMap_cons]
theorem Row.ix {α : Type} {f : α → List V} {z : Nat} {x : V} {l : List α} (h : Row f x l) (hz : ∀ a ∈ l, (f a).length = z) {P : Program} {T e : TypeId} (hT : P.underlying T = some (.slice e)) (he : sizeT P e = some z) {k : IntKind} {a : Int} (h0 : 0 ≤ a) (h1 : a < (l.length : Int)) :
    vindexAddr P T x (.int k a) = some (.cp (radr f l a.toNat)) := by
  obtain ⟨n, rfl⟩ := Int.eq_ofNat_of_zero_le h0
  have hn : n < l.length := by omega
  have hb : Nat.blt n l.length = true := by rw [blt_dec]; exact decide_eq_true hn
  cases h with
  | nils => simp at hn
  | sl l ex => simp only [vindexAddr, hT, asNat_cast, he, hb]; rw [flat_drop l hz n hn, Int.toNat_natCast, radr_at hn]; rfl
theorem fcp0 {cs : List V} : vfieldAddr Tryz.prog 38 (.cp cs) 0 = some (.cp cs) := by kernel_rfl
theorem fcp1 {cs : List V} : vfieldAddr Tryz.prog 38 (.cp cs) 1 = some (.cp (cs.drop 1)) := by kernel_rfl
theorem fcp2 {cs : List V} : vfieldAddr Tryz.prog 38 (.cp cs) 2 = some (.cp (cs.drop 2)) := by kernel_rfl
theorem fcp3 {cs : List V} : vfieldAddr Tryz.prog 38 (.cp cs) 3 = some (.cp (cs.drop 3)) := by kernel_rfl
theorem fcp4 {cs : List V} : vfieldAddr Tryz.prog 38 (.cp cs) 4 = some (.cp (cs.drop 4)) := by kernel_rfl
theorem fcp5 {cs : List V} : vfieldAddr Tryz.prog 38 (.cp cs) 5 = some (.cp (cs.drop 5)) := by kernel_rfl
section
variable {st : St} {l : List Fw} {i : Nat}
theorem flp2 (h : i < l.length) : vload Tryz.prog st 23 (.cp ((radr Fw.cells l i).drop 2)) = some l[i].nv := by
  rw [radr_at h]; simp only [vload, vpart, a23, z23]; rfl
theorem flp3 (h : i < l.length) : vload Tryz.prog st 36 (.cp ((radr Fw.cells l i).drop 3)) = some l[i].kv := by
  rw [radr_at h]; simp only [vload, vpart, a36, z36]; rfl
theorem flp (h : i < l.length) : vload Tryz.prog st 38 (.cp (radr Fw.cells l i)) = some (.agg l[i].cells) := by
  rw [radr_at h]; exact load38 _ _ _
end
theorem ilp {st : St} {l : List Int} {i : Nat} (h : i < l.length) : vload Tryz.prog st 3 (.cp (radr iC l i)) = some (.int .i64 l[i]) := by
  rw [radr_at h]; exact load3 _ _ _
def sumTo (f : Nat → Nat) : Nat → Nat
  | 0 => 0
  | n + 1 => sumTo f n + f (n + 1)
theorem sumTo_add (f g : Nat → Nat) : ∀ n, sumTo (fun m => f m + g m) n = sumTo f n + sumTo g n
  | 0 => rfl
  | n + 1 => by simp only [sumTo, sumTo_add f g n]; omega
theorem sumTo_congr {f g : Nat → Nat} : ∀ {n : Nat}, (∀ m, 1 ≤ m → m ≤ n → f m = g m) → sumTo f n = sumTo g n
  | 0, _ => rfl
  | n + 1, h => by simp only [sumTo]; rw [sumTo_congr fun m h1 h2 => h m h1 (by omega), h (n + 1) (by omega) (by omega)]
theorem sumTo_one : ∀ n, sumTo (fun _ => 1) n = n
  | 0 => rfl
  | n + 1 => by simp only [sumTo, sumTo_one n]
def inR (n : Nat) (k : Int) : Bool := decide (1 ≤ k) && decide (k ≤ (n : Int))
theorem sumTo_ind (k : Int) : ∀ n : Nat, sumTo (fun m => if (m : Int) = k then 1 else 0) n = if inR n k then 1 else 0
  | 0 => by simp [sumTo, inR]; omega
  | n + 1 => by
    simp only [sumTo, sumTo_ind k n, inR, Bool.and_eq_true, decide_eq_true_eq]
    by_cases h : ((n + 1 : Nat) : Int) = k
    · rw [if_pos h, if_neg (by omega), if_pos (by omega)]
    · rw [if_neg h]
      by_cases h2 : 1 ≤ k ∧ k ≤ (n : Int)
      · rw [if_pos h2, if_pos (by omega)]
      · rw [if_neg h2, if_neg (by omega)]
theorem sumTo_count (n : Nat) : ∀ K : List Int, sumTo (fun m => K.count (m : Int)) n = (K.filter (inR n)).length
  | [] => by
    have h : ∀ n, sumTo (fun _ => 0) n = 0 := fun n => by induction n with
      | zero => rfl
      | succ n ih => simp only [sumTo, ih]
    simp [h]
  | k :: K => by
    have h : sumTo (fun m => (k :: K).count (m : Int)) n = sumTo (fun m => K.count (m : Int) + if (m : Int) = k then 1 else 0) n := sumTo_congr fun m _ _ => by
      rw [List.count_cons]
      by_cases hk : k = (m : Int)
      · simp [hk]
      · have : ¬ (m : Int) = k := fun h => hk h.symm
        simp [hk, this]
    rw [h, sumTo_add, sumTo_count n K, sumTo_ind, List.filter_cons]
    cases inR n k <;> simp
theorem occ_len (l : List Fw) (n : Int) : (occ l n).length = (kidsL l).count n := by
  have h : ∀ i, i ≤ l.length → (occTo l n i).length = (kidsL (l.take i)).count n := by
    intro i
    induction i with
    | zero => intro _; simp [occTo, kidsL]
    | succ i ih =>
      intro hi
      rw [occ_step (by omega), List.length_append, ih (by omega)]
      unfold kidsL
      rw [List.take_add_one, List.getElem?_eq_getElem (by omega), List.flatMap_append, List.count_append]
      congr 1
      simp only [hitsOf, List.length_map, Option.toList_some, List.flatMap_cons, List.flatMap_nil, List.append_nil]
      rw [List.count_eq_length_filter]
      congr 1
  have := h l.length (Nat.le_refl _)
  rw [List.take_length] at this
  exact this
theorem occ_mem {l : List Fw} {n : Int} {j : Nat} : j ∈ occ l n ↔ ∃ h : j < l.length, n ∈ l[j].kids := by
  unfold occ occTo
  rw [List.mem_flatMap]
  constructor
  · rintro ⟨m, hm, hj⟩
    have hm := List.mem_range.1 hm
    unfold hitsOf at hj
    rw [List.mem_map] at hj
    obtain ⟨k, hk, rfl⟩ := hj
    rw [List.mem_filter] at hk
    have := of_decide_eq_true hk.2
    subst this
    refine ⟨hm, ?_⟩
    have := hk.1
    simpa [kidsAt, hm] using this
  · rintro ⟨h, hn⟩
    refine ⟨j, List.mem_range.2 h, ?_⟩
    unfold hitsOf
    rw [List.mem_map]
    refine ⟨n, List.mem_filter.2 ⟨?_, by simp⟩, rfl⟩
    simpa [kidsAt, h] using hn
theorem kidsL_mem {l : List Fw} {k : Int} : k ∈ kidsL l ↔ ∃ j, ∃ h : j < l.length, k ∈ l[j].kids := by
  unfold kidsL
  rw [List.mem_flatMap]
  constructor
  · rintro ⟨f, hf, hk⟩
    obtain ⟨j, hj, rfl⟩ := List.getElem_of_mem hf
    exact ⟨j, hj, hk⟩
  · rintro ⟨j, hj, hk⟩
    exact ⟨_, List.getElem_mem hj, hk⟩
structure MayF (l : List Fw) : Prop where
  pos : 0 < l.length
  head : headDir l = true
  one : ∀ j (h : j < l.length), oneB l[j] = true
  kid : ∀ j (h : j < l.length) k, k ∈ l[j].kids → (j : Int) < k ∧ k < (l.length : Int)
  once : ∀ m, 1 ≤ m → m < l.length → (kidsL l).count (m : Int) = 1
theorem head_pos {l : List Fw} (h : headDir l = true) : 0 < l.length := by
  cases l with
  | nil => simp [headDir] at h
  | cons f r => simp
theorem facts_iff {l : List Fw} : factsB l = true ↔ ∀ j (h : j < l.length), factB l.length j l[j] = true := by
  constructor
  · intro hf j hj
    unfold factsB at hf
    rw [List.all_eq_true] at hf
    have := hf j (List.mem_range.2 hj)
    rwa [List.getElem?_eq_getElem hj] at this
  · intro h
    exact facts_end (i := l.length) (fun j hj _ => h j hj) (Nat.le_refl _)
theorem once_iff {l : List Fw} (hp : 0 < l.length) : (((stC l.length (kidsL l)).drop 1).any (fun n => !decide (n = 1))) = false ↔ ∀ m, 1 ≤ m → m < l.length → (kidsL l).count (m : Int) = 1 := by
  rw [List.any_eq_false]
  constructor
  · intro h m h1 h2
    have hm : ((kidsL l).count (m : Int) : Int) ∈ (stC l.length (kidsL l)).drop 1 := by
      rw [List.mem_iff_getElem?]
      refine ⟨m - 1, ?_⟩
      rw [List.getElem?_drop, show 1 + (m - 1) = m from by omega, stC_get _ h2]
    have := h _ hm
    simp at this
    omega
  · intro h x hx
    rw [List.mem_iff_getElem?] at hx
    obtain ⟨i, hi⟩ := hx
    rw [List.getElem?_drop] at hi
    have hl : 1 + i < l.length := by
      rw [List.getElem?_eq_some_iff] at hi
      obtain ⟨h1, _⟩ := hi
      rwa [stC_len] at h1
    rw [stC_get _ hl] at hi
    have := h (1 + i) (by omega) hl
    rw [this] at hi
    simp at hi
    simp [← hi]
theorem mayP_iff {l : List Fw} : mayP l = true ↔ MayF l := by
  unfold mayP
  rw [Bool.and_eq_true, Bool.and_eq_true, Bool.not_eq_true']
  constructor
  · rintro ⟨⟨h1, h2⟩, h3⟩
    have hp := head_pos h1
    rw [facts_iff] at h2
    rw [once_iff hp] at h3
    refine ⟨hp, h1, fun j hj => ?_, fun j hj k hk => ?_, h3⟩
    · have := h2 j hj
      rw [factB, Bool.and_eq_true] at this
      exact this.1
    · have := h2 j hj
      rw [factB, Bool.and_eq_true, List.all_eq_true] at this
      have := this.2 k hk
      rw [kidB, Bool.and_eq_true] at this
      exact ⟨of_decide_eq_true this.1, of_decide_eq_true this.2⟩
  · rintro ⟨hp, h1, h2, h3, h4⟩
    refine ⟨⟨h1, facts_iff.2 fun j hj => ?_⟩, (once_iff hp).2 h4⟩
    rw [factB, Bool.and_eq_true, List.all_eq_true]
    refine ⟨h2 j hj, fun k hk => ?_⟩
    rw [kidB, Bool.and_eq_true]
    exact ⟨decide_eq_true (h3 j hj k hk).1, decide_eq_true (h3 j hj k hk).2⟩
theorem aboveL_of {l : List Fw} {m : Int} (h : (kidsL l).count m = 1) : ∃ j, ∃ hj : j < l.length, m ∈ l[j].kids ∧ aboveL l m = (j : Int) := by
  rw [← occ_len] at h
  match ho : occ l m, h with
  | [j], _ =>
    have hm : j ∈ occ l m := by rw [ho]; simp
    obtain ⟨hj, hk⟩ := occ_mem.1 hm
    exact ⟨j, hj, hk, by unfold aboveL; rw [ho]; rfl⟩
theorem mayR_iff {l : List Fw} : mayR l = true ↔ MayF l := by
  unfold mayR
  rw [Bool.and_eq_true, Bool.and_eq_true, Bool.and_eq_true, List.all_eq_true, List.all_eq_true, decide_eq_true_iff]
  constructor
  · rintro ⟨⟨⟨h1, h2⟩, h3⟩, h4⟩
    have hp := head_pos h1
    have hstand : ∀ m, 1 ≤ m → m < l.length → standB l m = true := fun m hm1 hm2 => h4 m (by
      rw [List.mem_iff_getElem]
      exact ⟨m - 1, by simp; omega, by simp; omega⟩)
    have honce : ∀ m, 1 ≤ m → m < l.length → (kidsL l).count (m : Int) = 1 := fun m hm1 hm2 => by
      have := hstand m hm1 hm2
      rw [standB, Bool.and_eq_true] at this
      have h5 := of_decide_eq_true this.1
      rw [← occ_len]
      unfold aboveL at h5
      match ho : occ l (m : Int) with
      | [] => rw [ho] at h5; simp [oneOf] at h5
      | [j] => rfl
      | a :: b :: c => rw [ho] at h5; simp [oneOf] at h5
    have hsum := sumTo_count (l.length - 1) (kidsL l)
    rw [sumTo_congr (g := fun _ => 1) fun m hm1 hm2 => honce m hm1 (by omega), sumTo_one] at hsum
    have hall : ∀ k ∈ kidsL l, inR (l.length - 1) k = true := by
      have h6 : (kidsL l).filter (inR (l.length - 1)) = kidsL l := by
        apply List.filter_eq_self.2
        have := List.length_filter_eq_length_iff (p := inR (l.length - 1)) (l := kidsL l)
        exact this.1 (by omega)
      exact List.filter_eq_self.1 h6
    refine ⟨hp, h1, fun j hj => h2 _ (List.getElem_mem hj), fun j hj k hk => ?_, honce⟩
    have hin := hall k (kidsL_mem.2 ⟨j, hj, hk⟩)
    rw [inR, Bool.and_eq_true] at hin
    have k1 := of_decide_eq_true hin.1
    have k2 := of_decide_eq_true hin.2
    obtain ⟨m, rfl⟩ := Int.eq_ofNat_of_zero_le (show 0 ≤ k by omega)
    refine ⟨?_, by omega⟩
    have hs := hstand m (by omega) (by omega)
    rw [standB, Bool.and_eq_true] at hs
    have h7 := of_decide_eq_true hs.2
    obtain ⟨j', hj', hk', ha⟩ := aboveL_of (honce m (by omega) (by omega))
    have : j = j' := by
      have hc := honce m (by omega) (by omega)
      rw [← occ_len] at hc
      match ho : occ l (m : Int), hc with
      | [a], _ =>
        have m1 : j ∈ occ l (m : Int) := occ_mem.2 ⟨hj, hk⟩
        have m2 : j' ∈ occ l (m : Int) := occ_mem.2 ⟨hj', hk'⟩
        rw [ho] at m1 m2
        simp at m1 m2
        omega
    subst this
    omega
  · rintro ⟨hp, h1, h2, h3, h4⟩
    refine ⟨⟨⟨h1, fun f hf => ?_⟩, ?_⟩, fun m hm => ?_⟩
    · obtain ⟨j, hj, rfl⟩ := List.getElem_of_mem hf
      exact h2 j hj
    · have hsum := sumTo_count (l.length - 1) (kidsL l)
      rw [sumTo_congr (g := fun _ => 1) fun m hm1 hm2 => h4 m hm1 (by omega), sumTo_one] at hsum
      have h6 : (kidsL l).filter (inR (l.length - 1)) = kidsL l := List.filter_eq_self.2 fun k hk => by
        obtain ⟨j, hj, hk⟩ := kidsL_mem.1 hk
        have := h3 j hj k hk
        rw [inR, Bool.and_eq_true]
        exact ⟨decide_eq_true (by omega), decide_eq_true (by omega)⟩
      rw [h6] at hsum
      omega
    · rw [List.mem_iff_getElem] at hm
      obtain ⟨i, hi, rfl⟩ := hm
      simp only [List.length_drop, List.length_range] at hi
      simp only [List.getElem_drop, List.getElem_range]
      obtain ⟨j, hj, hk, ha⟩ := aboveL_of (h4 (1 + i) (by omega) (by omega))
      have := h3 j hj _ hk
      rw [standB, Bool.and_eq_true, ha]
      exact ⟨decide_eq_true (by omega), decide_eq_true (by omega)⟩
theorem mayR_eq (l : List Fw) : mayR l = mayP l := by
  rw [Bool.eq_iff_iff, mayR_iff, mayP_iff]
end Go.Vm
namespace Go.Vm
open Go Go.Proofs Go.Pa
attribute [local simp] OkG xOpsG wantG OkD OkRuns xDrawL vwanted isDefer vop kindOf vpure ev evs toV atTo_some Fr.dsTo Fr.glTo Fr.toNone initFr_at initFr_ds initFr_gl veff traverse tupled vresult V.undef evOpt xDraw xStep sameIn nn_eql nn_neq nn_lss nn_leq nn_gtr nn_geq nl_eql nl_neq nl_lss nl_leq nl_gtr nl_geq vbin_seql vbin_sneq vload_ctr vbin_add vbin_sub wrap_i64 veq_str veq_int fcp0 fcp1 fcp2 fcp3 fcp4 fcp5
def stepF (f : Fw) (s : S) : Option Int := match f.names.findIdx? (fun t => t.same s) with
  | some i => f.kids[i]?
  | none => none
def findL (l : List Fw) : Nat → List S → Option Nat
  | n, [] => some n
  | n, s :: p => match l[n]? with
    | some f => (match stepF f s with
      | some k => findL l k.toNat p
      | none => none)
    | none => none
def foundV : Option Nat → V
  | some n => .tup [.int .i64 (n : Int), .bool true, .int .i64 0]
  | none => .tup [.int .i64 0, .bool false, .int .i64 0]
def findV (may : Bool) (l : List Fw) (p : List S) : V := cond may (foundV (findL l 0 p)) (.tup [.int .i64 0, .bool false, .int .i64 4])
theorem findL_at {l : List Fw} {n : Nat} (hn : n < l.length) {s : S} {p : List S} : findL l n (s :: p) = match stepF l[n] s with
    | some k => findL l k.toNat p
    | none => none := by
  rw [findL, List.getElem?_eq_getElem hn]
theorem stepF_yes {f : Fw} {s : S} (h : Sorted f.names) (hlen : f.names.length = f.kids.length) {i : Nat} (hi : i < f.names.length) (hs : f.names[i].same s = true) : stepF f s = some (f.kids[i]'(by omega)) := by
  have h1 : f.names.findIdx? (fun t => t.same s) = some i := by
    rw [List.findIdx?_eq_some_iff_getElem]
    refine ⟨hi, hs, fun j hj => ?_⟩
    have := less_not_same (less_same (h j i hi hj) hs)
    simp [this]
  unfold stepF
  rw [h1]
  exact List.getElem?_eq_getElem (by omega)
theorem stepF_no {f : Fw} {s : S} (hs : ∀ (j : Nat) (h : j < f.names.length), f.names[j].same s = false) : stepF f s = none := by
  have h1 : f.names.findIdx? (fun t => t.same s) = none := by
    rw [List.findIdx?_eq_none_iff]
    intro t ht
    obtain ⟨j, hj, rfl⟩ := List.getElem_of_mem ht
    exact hs j hj
  unfold stepF
  rw [h1]
theorem stepF_kid {f : Fw} {s : S} {k : Int} (h : stepF f s = some k) : k ∈ f.kids := by
  unfold stepF at h
  split at h
  · exact List.mem_of_getElem? h
  · cases h
def atTo' (f : Fw) (s : S) : Nat → Int
  | 0 => -1
  | k + 1 => cond ((f.names.getD k ⟨0, 0⟩).same s) (f.kids.getD k 0) (atTo' f s k)
theorem atTo_no {f : Fw} {s : S} : ∀ {n : Nat}, (∀ j, j < n → (f.names.getD j ⟨0, 0⟩).same s = false) → atTo' f s n = -1
  | 0, _ => rfl
  | n + 1, h => by rw [atTo', h n (by omega), atTo_no fun j hj => h j (by omega)]; rfl
theorem atTo_yes {f : Fw} {s : S} {i : Nat} (hi : (f.names.getD i ⟨0, 0⟩).same s = true) : ∀ {n : Nat}, i < n → (∀ j, i < j → j < n → (f.names.getD j ⟨0, 0⟩).same s = false) → atTo' f s n = f.kids.getD i 0
  | 0, h, _ => by omega
  | n + 1, h, hn => by
    rw [atTo']
    by_cases he : n = i
    · subst he; rw [hi]; rfl
    · rw [hn n (by omega) (by omega), atTo_yes hi (by omega) fun j h1 h2 => hn j h1 (by omega)]; rfl
theorem getD_at {l : List S} {i : Nat} (h : i < l.length) : l.getD i ⟨0, 0⟩ = l[i] := by rw [List.getD_eq_getElem?_getD, List.getElem?_eq_getElem h]; rfl
theorem atTo_step {f : Fw} {s : S} (h : Sorted f.names) (hlen : f.names.length = f.kids.length) : atTo' f s f.names.length = (stepF f s).getD (-1) := by
  by_cases hex : ∃ i, ∃ hi : i < f.names.length, f.names[i].same s = true
  · obtain ⟨i, hi, hs⟩ := hex
    rw [stepF_yes h hlen hi hs, atTo_yes (i := i) (by rw [getD_at hi]; exact hs) hi fun j h1 h2 => by
      rw [getD_at h2]
      cases hj : f.names[j].same s with
      | false => rfl
      | true =>
        have hss : f.names[i].same f.names[j] = true := by
          rw [S.same_eq, same_toList hs, same_toList hj]; simp
        rw [less_not_same (h i j h2 h1)] at hss
        cases hss]
    rw [List.getD_eq_getElem?_getD, List.getElem?_eq_getElem (by omega : i < f.kids.length)]
    rfl
  · have hno : ∀ (j : Nat) (h : j < f.names.length), f.names[j].same s = false := fun j hj => by
      cases hs : f.names[j].same s with
      | false => rfl
      | true => exact absurd ⟨j, hj, hs⟩ hex
    rw [stepF_no hno, atTo_no fun j hj => by rw [getD_at hj]; exact hno j hj]
    rfl
theorem oneB_len {f : Fw} (h : oneB f = true) : f.names.length = f.kids.length := by
  unfold oneB at h
  cases hh : headB f with
  | false => rw [hh] at h; cases h
  | true =>
    unfold headB at hh
    rw [Bool.and_eq_true] at hh
    exact of_decide_eq_true hh.2
theorem oneB_sorted {f : Fw} (h : oneB f = true) : Sorted f.names := by
  unfold oneB at h
  cases hh : headB f with
  | false => rw [hh] at h; cases h
  | true =>
    rw [hh] at h
    cases hd : dirB f with
    | false =>
      rw [hd] at h
      simp only [cond_true, cond_false, bareB, Bool.and_eq_true] at h
      have h0 := of_decide_eq_true h.1.1
      intro i j hj hij
      omega
    | true =>
      rw [hd] at h
      simp only [cond_true, Bool.and_eq_true] at h
      exact sorted_of h.1
variable [Memo] [NY]
set_option maxRecDepth 100000 in
theorem wFind (gl : Gl) {aL : List V} (hh : Hits gl aL) (st : St) (x y : V) (l : List Fw) (p : List S) (hx : Row Fw.cells x l) (hok : ∀ f ∈ l, f.ok) (hs : ∀ f ∈ l, f.small) (hl : l.length ≤ 60) (hy : Vw st y p) (hp : p.length ≤ 60) :
    Says Tryz.prog gl 12 [x, y] st (fun v st' => v = findV (mayP l) l p ∧ Keep st st') := by
  refine saysK (NY.no _ rfl rfl rfl _ _) Tryz.func12 rfl (by kernel_rfl) fun R hR K gr gn => ?_
  generalize hfr : initFr gl [x, y] = fr
  have hF : Fs gl [(0, x), (1, y)] fr := by subst hfr; simp [Fs]
  simp only [Fs] at hF
  clear hfr
  obtain ⟨v, s1, hc, rfl, hk1⟩ := Says.use (wMayP_ok gl hh st x l hx hok hs hl) (by kernel_rfl)
  have hm := mayP_iff (l := l)
  have ly := hy.len Tryz.underlying23
  have hix : ∀ {k : IntKind} {a : Int}, 0 ≤ a → a < (l.length : Int) → vindexAddr Tryz.prog 22 x (.int k a) = some (.cp (radr Fw.cells l a.toNat)) := fun h0 h1 => hx.ix (fun f _ => f.len6) Tryz.underlying22 z38 h0 h1
  generalize mayP l = M at hc hm hR
  refine DoK.seq ?_
  refine DoK.regG (gs := [none, none, none]) (by kernel_rfl) fun K1 gK => ?_
  simp (maxSteps := 1000000) (disch := omega) []
  refine gK _ _ ?_
  clear gK K1
  refine DoK.seq ?_
  refine DoK.seq ?_
  refine DoK.regG (gs := [none, none, none]) (by kernel_rfl) fun K1 gK => ?_
  simp (maxSteps := 1000000) (disch := omega) [hF, hc]
  refine gK _ _ ?_
  clear gK K1
  cases M with
  | true =>
    refine DoK.condF (by simp (maxSteps := 1000000) (disch := omega) []) ?_
    refine DoK.skip ?_
    refine DoK.seq ?_
    refine DoK.regG (gs := [none]) (by kernel_rfl) fun K1 gK => ?_
    simp (maxSteps := 1000000) (disch := omega) []
    refine gK _ _ ?_
    clear gK K1
    refine DoK.seq ?_
    refine DoK.seq ?_
    refine DoK.regG (gs := [none, none, none]) (by kernel_rfl) fun K1 gK => ?_
    simp (maxSteps := 1000000) (disch := omega) [hF, ly]
    refine gK _ _ ?_
    clear gK K1
    have hmf := hm.1 rfl
    have hpos := hmf.pos
    refine DoK.loop (p.length) (fun i fr st' => ∃ n : Nat, Fs gl [(0, x), (7, .int .i64 (n : Int)), (15, y), (16, .int .i64 (p.length : Int)), (17, .int .i64 (i : Int))] fr ∧ i ≤ p.length ∧ n < l.length ∧ Keep st st' ∧ findL l n (p.drop i) = findL l 0 p) (0) (fun fr st' => ∃ n : Nat, Fs gl [(7, .int .i64 (n : Int))] fr ∧ Keep st st' ∧ findL l 0 p = some n) ?_ ?_ ?_ ?_
    · exact ⟨0, by simp [Fs, hF], Nat.zero_le _, hpos, hk1, rfl⟩
    · rintro i fr st' ⟨n, _, hi, hn, hk, hf⟩
      omega
    · as_aux_lemma =>
      clear hF
      rintro i fr st' ⟨n, hF, hi, hn, hk, hf⟩ K1 gk1 gx1 go1
      simp only [Fs] at hF
      have gr1 := fun fr st h => go1 AE.ret fr st trivial (gr fr st h)
      refine DoK.seq ?_
      refine DoK.regG (gs := [none]) (by kernel_rfl) fun K1 gK => ?_
      simp (maxSteps := 1000000) (disch := omega) [hF]
      refine gK _ _ ?_
      clear gK K1
      refine DoK.seq ?_
      by_cases hlt : i < p.length
      ·
        refine DoK.condT (by simp (maxSteps := 1000000) (disch := omega) [hlt]) ?_
        have hy' := hy.keep hk
        have hyi := hy'.ix Tryz.underlying23 z9 (k := .i64) (a := (i : Int)) (by omega) (by omega)
        have hyd := hy'.ld z9 a9 hlt
        have hfo := hok _ (List.getElem_mem hn)
        have hfs := hs _ (List.getElem_mem hn)
        have hone := hmf.one n hn
        have hlen := oneB_len hone
        have hso := oneB_sorted hone
        obtain ⟨v, s2, hcb, ⟨j, b, rfl, hby, hbn⟩, hs2⟩ := Says.use (bsearch_ok gl st' l[n].nv l[n].names p[i] (hfo.names.vw st') hfs.names hso) (by kernel_rfl)
        rw [show s2 = st' from hs2] at hcb
        clear hs2
        rw [List.drop_eq_getElem_cons hlt, findL_at hn] at hf
        refine DoK.skip ?_
        refine DoK.seq ?_
        refine DoK.block fun K2 gn2 gx2 go2 => ?_
        have gr2 := fun fr st h => go2 AE.ret fr st trivial (gr1 fr st h)
        have gx2_0 := fun fr st h => go2 (AE.exit 0) fr st (show (0 : Nat) ≠ 1 by decide) (gx1 fr st h)
        refine DoK.seq ?_
        refine DoK.regG (gs := [none, none, none]) (by kernel_rfl) fun K1 gK => ?_
        simp (maxSteps := 1000000) (disch := omega) [hF, hlt, hyi, hyd]
        refine gK _ _ ?_
        clear gK K1
        refine DoK.seq ?_
        refine DoK.regG (gs := [none, none, none, none, none, none, none, none, none, none, none, none]) (by kernel_rfl) fun K1 gK => ?_
        simp (maxSteps := 1000000) (disch := omega) [hF, hix, flp2, hcb]
        refine gK _ _ ?_
        clear gK K1
        refine DoK.seq ?_
        refine DoK.seq ?_
        refine DoK.regG (gs := [none, none]) (by kernel_rfl) fun K1 gK => ?_
        simp (maxSteps := 1000000) (disch := omega) []
        refine gK _ _ ?_
        clear gK K1
        cases b with
        | true =>
          obtain ⟨hj, hjs⟩ := hby rfl
          rw [stepF_yes hso hlen hj hjs] at hf
          have hk0 := hmf.kid n hn _ (List.getElem_mem (by omega : j < l[n].kids.length))
          have hki := hfo.kids.ix (z := 1) (fun _ _ => rfl) Tryz.underlying36 z3 (k := .i64) (a := (j : Int)) (by omega) (by omega)
          have hkd := fun st => ilp (st := st) (by omega : j < l[n].kids.length)
          have hmx : max l[n].kids[j] 0 = l[n].kids[j] := by omega
          refine DoK.condF (by simp (maxSteps := 1000000) (disch := omega) []) ?_
          refine DoK.skip ?_
          refine DoK.regG (gs := [none, none, none, none, none, none, none, none, none]) (by kernel_rfl) fun K1 gK => ?_
          simp (maxSteps := 1000000) (disch := omega) [hF, hix, flp3, hki, hkd]
          refine gK _ _ ?_
          clear gK K1
          refine gn2 _ _ ?_
          refine DoK.regG (gs := [none, none]) (by kernel_rfl) fun K1 gK => ?_
          simp (maxSteps := 1000000) (disch := omega) [hF]
          refine gK _ _ ?_
          clear gK K1
          refine gk1 (i + 1) _ _ (by omega) ⟨l[n].kids[j].toNat, by simp [Fs, hF, hmx], by omega, by omega, hk, hf⟩
        | false =>
          rw [stepF_no (hbn rfl)] at hf
          refine DoK.condT (by simp (maxSteps := 1000000) (disch := omega) []) ?_
          refine DoK.seq ?_
          refine DoK.regG (gs := [none, none, none]) (by kernel_rfl) fun K1 gK => ?_
          simp (maxSteps := 1000000) (disch := omega) []
          refine gK _ _ ?_
          clear gK K1
          refine DoK.ret (gr2 _ _ ?_)
          simp [Ends, Tryz.f12, hF]
          refine hR _ _ ?_
          exact ⟨by show _ = foundV _; rw [← hf]; rfl, hk⟩
      ·
        refine DoK.condF (by simp (maxSteps := 1000000) (disch := omega) [hlt]) ?_
        exact DoK.exit (gx1 _ _ ⟨n, by simp [Fs, hF, hlt], hk, by rw [← hf, List.drop_eq_nil_of_le (by omega)]; rfl⟩)
    · as_aux_lemma =>
      clear hF
      rintro fr st' ⟨n, hF, hk, hf⟩
      simp only [Fs] at hF
      refine DoK.seq ?_
      refine DoK.regG (gs := [none, none, none, none]) (by kernel_rfl) fun K1 gK => ?_
      simp (maxSteps := 1000000) (disch := omega) [hF]
      refine gK _ _ ?_
      clear gK K1
      refine DoK.ret (gr _ _ ?_)
      simp [Ends, Tryz.f12, hF]
      refine hR _ _ ?_
      exact ⟨by show _ = foundV _; rw [hf]; rfl, hk⟩
  | false =>
    refine DoK.condT (by simp (maxSteps := 1000000) (disch := omega) []) ?_
    refine DoK.seq ?_
    refine DoK.regG (gs := [none, none, none]) (by kernel_rfl) fun K1 gK => ?_
    simp (maxSteps := 1000000) (disch := omega) []
    refine gK _ _ ?_
    clear gK K1
    refine DoK.ret (gr _ _ ?_)
    simp [Ends, Tryz.f12, hF]
    refine hR _ _ ?_
    exact ⟨rfl, hk1⟩
set_option maxRecDepth 100000 in
theorem rFind (gl : Gl) (st : St) (x y : V) (l : List Fw) (p : List S) (hx : Row Fw.cells x l) (hok : ∀ f ∈ l, f.ok) (hs : ∀ f ∈ l, f.small) (hl : l.length ≤ 60) (hy : Vw st y p) (hp : p.length ≤ 60) :
    Says Tryz.prog gl 17 [x, y] st (fun v st' => v = findV (mayR l) l p ∧ Keep st st') := by
  refine saysK (NY.no _ rfl rfl rfl _ _) Tryz.func17 rfl (by kernel_rfl) fun R hR K gr gn => ?_
  generalize hfr : initFr gl [x, y] = fr
  have hF : Fs gl [(0, x), (1, y)] fr := by subst hfr; simp [Fs]
  simp only [Fs] at hF
  clear hfr
  obtain ⟨v, s1, hc, rfl, hk1⟩ := Says.use (rMayP_ok gl st x l hx hok hs hl) (by kernel_rfl)
  have hm := mayR_iff (l := l)
  have ly := hy.len Tryz.underlying23
  have hix : ∀ {k : IntKind} {a : Int}, 0 ≤ a → a < (l.length : Int) → vindexAddr Tryz.prog 22 x (.int k a) = some (.cp (radr Fw.cells l a.toNat)) := fun h0 h1 => hx.ix (fun f _ => f.len6) Tryz.underlying22 z38 h0 h1
  generalize mayR l = M at hc hm hR
  refine DoK.seq ?_
  refine DoK.regG (gs := [none, none, none]) (by kernel_rfl) fun K1 gK => ?_
  simp (maxSteps := 1000000) (disch := omega) []
  refine gK _ _ ?_
  clear gK K1
  refine DoK.seq ?_
  refine DoK.seq ?_
  refine DoK.regG (gs := [none, none, none]) (by kernel_rfl) fun K1 gK => ?_
  simp (maxSteps := 1000000) (disch := omega) [hF, hc]
  refine gK _ _ ?_
  clear gK K1
  cases M with
  | true =>
    refine DoK.condF (by simp (maxSteps := 1000000) (disch := omega) []) ?_
    refine DoK.skip ?_
    refine DoK.seq ?_
    refine DoK.regG (gs := [none]) (by kernel_rfl) fun K1 gK => ?_
    simp (maxSteps := 1000000) (disch := omega) []
    refine gK _ _ ?_
    clear gK K1
    refine DoK.seq ?_
    refine DoK.seq ?_
    refine DoK.regG (gs := [none]) (by kernel_rfl) fun K1 gK => ?_
    simp (maxSteps := 1000000) (disch := omega) []
    refine gK _ _ ?_
    clear gK K1
    have hmf := hm.1 rfl
    have hpos := hmf.pos
    refine DoK.loop (p.length) (fun i fr st' => ∃ n : Nat, Fs gl [(0, x), (1, y), (7, .int .i64 (n : Int)), (8, .int .i64 (i : Int))] fr ∧ i ≤ p.length ∧ n < l.length ∧ Keep st st' ∧ findL l n (p.drop i) = findL l 0 p) (0) (fun fr st' => ∃ n : Nat, Fs gl [(7, .int .i64 (n : Int))] fr ∧ Keep st st' ∧ findL l 0 p = some n) ?_ ?_ ?_ ?_
    · exact ⟨0, by simp [Fs, hF], Nat.zero_le _, hpos, hk1, rfl⟩
    · rintro i fr st' ⟨n, _, hi, hn, hk, hf⟩
      omega
    · as_aux_lemma =>
      clear hF
      rintro i fr st' ⟨n, hF, hi, hn, hk, hf⟩ K3 gk3 gx3 go3
      simp only [Fs] at hF
      have gr3 := fun fr st h => go3 AE.ret fr st trivial (gr fr st h)
      refine DoK.seq ?_
      refine DoK.seq ?_
      refine DoK.regG (gs := [none, none, none, none]) (by kernel_rfl) fun K1 gK => ?_
      simp (maxSteps := 1000000) (disch := omega) [hF, ly]
      refine gK _ _ ?_
      clear gK K1
      by_cases hlt : i < p.length
      ·
        refine DoK.condT (by simp (maxSteps := 1000000) (disch := omega) [hlt]) ?_
        have hy' := hy.keep hk
        have hyi := hy'.ix Tryz.underlying23 z9 (k := .i64) (a := (i : Int)) (by omega) (by omega)
        have hyd := hy'.ld z9 a9 hlt
        have hfo := hok _ (List.getElem_mem hn)
        have hfs := hs _ (List.getElem_mem hn)
        have hone := hmf.one n hn
        have hlen := oneB_len hone
        have hso := oneB_sorted hone
        have hat := atTo_step (s := p[i]) hso hlen
        have hnl := (hfo.names.vw st').len Tryz.underlying23
        have hnn := hfs.names
        rw [List.drop_eq_getElem_cons hlt, findL_at hn] at hf
        refine DoK.skip ?_
        refine DoK.seq ?_
        refine DoK.block fun K4 gn4 gx4 go4 => ?_
        have gr4 := fun fr st h => go4 AE.ret fr st trivial (gr3 fr st h)
        have gx4_0 := fun fr st h => go4 (AE.exit 0) fr st (show (0 : Nat) ≠ 1 by decide) (gx3 fr st h)
        refine DoK.seq ?_
        refine DoK.regG (gs := [none]) (by kernel_rfl) fun K1 gK => ?_
        simp (maxSteps := 1000000) (disch := omega) [hlt]
        refine gK _ _ ?_
        clear gK K1
        refine DoK.seq ?_
        refine DoK.seq ?_
        refine DoK.regG (gs := [none]) (by kernel_rfl) fun K1 gK => ?_
        simp (maxSteps := 1000000) (disch := omega) []
        refine gK _ _ ?_
        clear gK K1
        refine DoK.loop (l[n].names.length) (fun k fr st' => Fs gl [(0, x), (1, y), (7, .int .i64 (n : Int)), (8, .int .i64 (i : Int)), (9, .int .i64 (atTo' l[n] p[i] k)), (10, .int .i64 (k : Int))] fr ∧ k ≤ l[n].names.length ∧ Keep st st') (0) (fun fr st' => Fs gl [(0, x), (1, y), (8, .int .i64 (i : Int)), (9, .int .i64 (atTo' l[n] p[i] l[n].names.length))] fr ∧ Keep st st') ?_ ?_ ?_ ?_
        · exact ⟨by simp [Fs, hF, atTo'],  Nat.zero_le _, hk⟩
        · rintro k fr st' ⟨_, hkl, hk2⟩
          omega
        · as_aux_lemma =>
          clear hF
          rintro k fr st' ⟨hF, hkl, hk2⟩ K5 gk5 gx5 go5
          simp only [Fs] at hF
          have gr5 := fun fr st h => go5 AE.ret fr st trivial (gr4 fr st h)
          have gx5_0 := fun fr st h => go5 (AE.exit 0) fr st (show (0 : Nat) ≠ 2 by decide) (gx4_0 fr st h)
          have gx5_1 := fun fr st h => go5 (AE.exit 1) fr st (show (1 : Nat) ≠ 2 by decide) (gx4 fr st h)
          refine DoK.seq ?_
          refine DoK.seq ?_
          refine DoK.regG (gs := [none, none, none, none, none, none, none, none]) (by kernel_rfl) fun K1 gK => ?_
          simp (maxSteps := 1000000) (disch := omega) [hF, hix, flp2, hnl]
          refine gK _ _ ?_
          clear gK K1
          by_cases hkt : k < l[n].names.length
          ·
            refine DoK.condT (by simp (maxSteps := 1000000) (disch := omega) [hkt]) ?_
            have hnv := hfo.names.vw st'
            have hni := hnv.ix Tryz.underlying23 z9 (k := .i64) (a := (k : Int)) (by omega) (by omega)
            have hnd := fun st => (hfo.names.vw st).ld z9 a9 hkt
            have hyd2 := (hy.keep hk2).ld z9 a9 hlt
            have hki := hfo.kids.ix (z := 1) (fun _ _ => rfl) Tryz.underlying36 z3 (k := .i64) (a := (k : Int)) (by omega) (by omega)
            have hkd := fun st => ilp (st := st) (by omega : k < l[n].kids.length)
            obtain ⟨b, hsb⟩ : ∃ b, l[n].names[k].same p[i] = b := ⟨_, rfl⟩
            have hgk : l[n].kids.getD k 0 = l[n].kids[k]'(by omega) := by rw [List.getD_eq_getElem?_getD, List.getElem?_eq_getElem (by omega : k < l[n].kids.length)]; rfl
            have hat2 : atTo' l[n] p[i] (k + 1) = cond b (l[n].kids[k]'(by omega)) (atTo' l[n] p[i] k) := by rw [atTo', getD_at hkt, hsb, hgk]
            have hvq : veq 1000000000 l[n].nv l[n].nv = true := veq_self _ (by have := vsz_names hfo.names; omega)
            have hk3 : Keep st { ctr := st'.ctr + 13, box := st'.box } := hk2.tick 13
            refine DoK.skip ?_
            refine DoK.seq ?_
            refine DoK.block fun K6 gn6 gx6 go6 => ?_
            have gr6 := fun fr st h => go6 AE.ret fr st trivial (gr5 fr st h)
            have gx6_0 := fun fr st h => go6 (AE.exit 0) fr st (show (0 : Nat) ≠ 3 by decide) (gx5_0 fr st h)
            have gx6_1 := fun fr st h => go6 (AE.exit 1) fr st (show (1 : Nat) ≠ 3 by decide) (gx5_1 fr st h)
            have gx6_2 := fun fr st h => go6 (AE.exit 2) fr st (show (2 : Nat) ≠ 3 by decide) (gx5 fr st h)
            refine DoK.seq ?_
            refine DoK.drawL (b := [0, 0, 3, 7, 15, 0, 63, 127, 0, 0, 768, 1792, 4095]) (by kernel_rfl) (by kernel_rfl) (by kernel_rfl) fun K1 gK => ?_
            simp (maxSteps := 1000000) (disch := omega) [hF, hix, flp2, hyi, hkt, hni, hnd, hyd2, hsb, hvq]
            refine gK _ _ ?_
            clear gK K1
            refine DoK.mid (fun fr st' => Fs gl [(0, x), (1, y), (7, .int .i64 (n : Int)), (8, .int .i64 (i : Int)), (9, .int .i64 (atTo' l[n] p[i] (k + 1))), (10, .int .i64 (k : Int))] fr ∧ Keep st st') ?_ ?_
            · as_aux_lemma =>
              intro K7 gm7 go7
              have gr7 := fun fr st h => go7 AE.ret fr st trivial (gr6 fr st h)
              have gx7_0 := fun fr st h => go7 (AE.exit 0) fr st trivial (gx6_0 fr st h)
              have gx7_1 := fun fr st h => go7 (AE.exit 1) fr st trivial (gx6_1 fr st h)
              have gx7_2 := fun fr st h => go7 (AE.exit 2) fr st trivial (gx6_2 fr st h)
              have gx7_3 := fun fr st h => go7 (AE.exit 3) fr st trivial (gx6 fr st h)
              cases b with
              | true =>
                refine DoK.condT (by simp (maxSteps := 1000000) (disch := omega) []) ?_
                refine DoK.regG (gs := [none, none, none, none, none, none, none, none, none]) (by kernel_rfl) fun K1 gK => ?_
                simp (maxSteps := 1000000) (disch := omega) [hF, hix, flp3, hki, hkd]
                refine gK _ _ ?_
                clear gK K1
                exact gm7 _ _ ⟨by simp [Fs, hF, hat2], hk3⟩
              | false =>
                refine DoK.condF (by simp (maxSteps := 1000000) (disch := omega) []) ?_
                refine DoK.skip ?_
                exact gm7 _ _ ⟨by simp [Fs, hF, hat2], hk3⟩
            · as_aux_lemma =>
              clear hF
              rintro fr st' ⟨hF, hk3⟩
              simp only [Fs] at hF
              refine gn6 _ _ ?_
              refine DoK.regG (gs := [none, none, none]) (by kernel_rfl) fun K1 gK => ?_
              simp (maxSteps := 1000000) (disch := omega) [hF]
              refine gK _ _ ?_
              clear gK K1
              refine gk5 (k + 1) _ _ (by omega) ⟨by simp [Fs, hF, hat2], by omega, hk3⟩
          ·
            refine DoK.condF (by simp (maxSteps := 1000000) (disch := omega) [hkt]) ?_
            exact DoK.exit (gx5 _ _ ⟨by (rw [show k = l[n].names.length from by omega] at hF; simp [Fs, hF]),  hk2⟩)
        · as_aux_lemma =>
          clear hF
          rintro fr st' ⟨hF, hk2⟩
          simp only [Fs] at hF
          rw [hat] at hF
          obtain ⟨o, ho⟩ : ∃ o, stepF l[n] p[i] = o := ⟨_, rfl⟩
          rw [ho] at hF hf
          cases o with
          | none =>
            simp only [Option.getD_none] at hF
            refine DoK.seq ?_
            refine DoK.seq ?_
            refine DoK.regG (gs := [none, none]) (by kernel_rfl) fun K1 gK => ?_
            simp (maxSteps := 1000000) (disch := omega) [hF]
            refine gK _ _ ?_
            clear gK K1
            refine DoK.condT (by simp (maxSteps := 1000000) (disch := omega) []) ?_
            refine DoK.seq ?_
            refine DoK.regG (gs := [none, none, none]) (by kernel_rfl) fun K1 gK => ?_
            simp (maxSteps := 1000000) (disch := omega) []
            refine gK _ _ ?_
            clear gK K1
            refine DoK.ret (gr4 _ _ ?_)
            simp [Ends, Tryz.f17, hF]
            refine hR _ _ ?_
            exact ⟨by show _ = foundV _; rw [← hf]; rfl, hk2⟩
          | some kd =>
            simp only [Option.getD_some] at hF
            have hkr := hmf.kid n hn kd (stepF_kid ho)
            have h0k : 0 ≤ kd := by omega
            have hmx : max kd 0 = kd := by omega
            refine DoK.seq ?_
            refine DoK.seq ?_
            refine DoK.regG (gs := [none, none]) (by kernel_rfl) fun K1 gK => ?_
            simp (maxSteps := 1000000) (disch := omega) [hF]
            refine gK _ _ ?_
            clear gK K1
            refine DoK.condF (by simp (maxSteps := 1000000) (disch := omega) [h0k]) ?_
            refine DoK.skip ?_
            refine DoK.regG (gs := [none, none]) (by kernel_rfl) fun K1 gK => ?_
            simp (maxSteps := 1000000) (disch := omega) [hF]
            refine gK _ _ ?_
            clear gK K1
            refine gn4 _ _ ?_
            refine DoK.regG (gs := [none, none, none]) (by kernel_rfl) fun K1 gK => ?_
            simp (maxSteps := 1000000) (disch := omega) [hF]
            refine gK _ _ ?_
            clear gK K1
            refine gk3 (i + 1) _ _ (by omega) ⟨kd.toNat, by simp [Fs, hF, hmx], by omega, by omega, hk2, hf⟩
      ·
        refine DoK.condF (by simp (maxSteps := 1000000) (disch := omega) [hlt]) ?_
        exact DoK.exit (gx3 _ _ ⟨n, by simp [Fs, hF, hlt], hk, by rw [← hf, List.drop_eq_nil_of_le (by omega)]; rfl⟩)
    · as_aux_lemma =>
      clear hF
      rintro fr st' ⟨n, hF, hk, hf⟩
      simp only [Fs] at hF
      refine DoK.seq ?_
      refine DoK.regG (gs := [none, none, none, none]) (by kernel_rfl) fun K1 gK => ?_
      simp (maxSteps := 1000000) (disch := omega) [hF]
      refine gK _ _ ?_
      clear gK K1
      refine DoK.ret (gr _ _ ?_)
      simp [Ends, Tryz.f17, hF]
      refine hR _ _ ?_
      exact ⟨by show _ = foundV _; rw [hf]; rfl, hk⟩
  | false =>
    refine DoK.condT (by simp (maxSteps := 1000000) (disch := omega) []) ?_
    refine DoK.seq ?_
    refine DoK.regG (gs := [none, none, none]) (by kernel_rfl) fun K1 gK => ?_
    simp (maxSteps := 1000000) (disch := omega) []
    refine gK _ _ ?_
    clear gK K1
    refine DoK.ret (gr _ _ ?_)
    simp [Ends, Tryz.f17, hF]
    refine hR _ _ ?_
    exact ⟨rfl, hk1⟩
end Go.Vm
namespace Go.Vm
open Go
inductive Mine (lo : Nat) (e : TypeId) (st : St) : V → List V → Prop
  | nils : Mine lo e st .nils []
  | ms (id n : Nat) (cap : Option Nat) (cs : List V) (fl : Bool) (hlo : lo ≤ id) (hid : id < st.ctr) (hb : st.box.get id = some (.cells cs e fl (some 0))) (hn : n ≤ cs.length) (hcap : ∀ c, cap = some c → n ≤ c ∧ c ≤ cs.length) :
      Mine lo e st (.ms id 0 n 1 cap) (cs.take n)
def Behind (st : St) (x : V) (l : List V) : Prop := srcCells st 1 x = some (l, l.length) ∧ l.all oneC = true
theorem all_str (l : List S) : (l.map V.str).all oneC = true := by simp [oneC]
theorem Vw.srcs {st : St} {x : V} {l : List S} (h : Vw st x l) : Behind st x (l.map .str) := ⟨by rw [h.src, List.length_map], all_str l⟩
theorem Mine.src {lo : Nat} {e : TypeId} {st : St} {x : V} {l : List V} (h : Mine lo e st x l) (ho : l.all oneC = true) : Behind st x l := by
  refine ⟨?_, ho⟩
  cases h with
  | nils => rfl
  | ms id n cap cs fl hlo hid hb hn hcap =>
    have h1 : Nat.ble (0 + n) cs.length = true := Nat.ble_eq_true_of_le (by omega)
    simp only [srcCells, sliceCells, hb, Nat.mul_one, h1, sub, List.drop_zero, List.length_take, Nat.min_eq_left hn]
theorem Mine.vw {lo : Nat} {e : TypeId} {st : St} {x : V} {l : List S} (h : Mine lo e st x (l.map .str)) : Vw st x l := by
  generalize hm : l.map V.str = m at h
  cases h with
  | nils =>
    have : l = [] := by simpa using hm
    subst this
    exact .nils
  | ms id n cap cs fl hlo hid hb hn hcap =>
    have hl : l.length = n := by have := congrArg List.length hm; simpa [Nat.min_eq_left hn] using this
    subst hl
    refine .ms id 0 cap cs e fl (some 0) l hb (fun i hi => ?_) (by omega) hid ?_
    · have := congrArg (fun m => m[i]?) hm
      simp only [List.getElem?_map, List.getElem?_take, if_pos hi, List.getElem?_eq_getElem hi, Option.map_some] at this
      rw [Nat.zero_add, ← this, List.getD_eq_getElem?_getD, List.getElem?_eq_getElem hi]; rfl
    · cases cap with
      | none => exact ble_self _
      | some c => exact Nat.ble_eq_true_of_le (hcap c rfl).1
theorem Mine.keep {lo : Nat} {e : TypeId} {st st' : St} {x : V} {l : List V} (h : Mine lo e st x l) (hk : Keep st st') : Mine lo e st' x l := by
  cases h with
  | nils => exact .nils
  | ms id n cap cs fl hlo hid hb hn hcap => exact .ms id n cap cs fl hlo (Nat.lt_of_lt_of_le hid hk.ctr) (by rw [hk.box id hid]; exact hb) hn hcap
theorem Mine.low {lo lo' : Nat} {e : TypeId} {st : St} {x : V} {l : List V} (h : Mine lo e st x l) (hl : lo' ≤ lo) : Mine lo' e st x l := by
  cases h with
  | nils => exact .nils
  | ms id n cap cs fl hlo hid hb hn hcap => exact .ms id n cap cs fl (Nat.le_trans hl hlo) hid hb hn hcap
structure Low (lo : Nat) (st st' : St) : Prop where
  ctr : st.ctr ≤ st'.ctr
  box : ∀ id, id < lo → st'.box.get id = st.box.get id
theorem Low.keep {lo : Nat} {a b c : St} (h : Low lo b c) (k : Keep a b) (hl : a.ctr ≤ lo) : Keep a c := ⟨Nat.le_trans k.ctr h.ctr, fun id hi => (h.box id (by omega)).trans (k.box id hi)⟩
theorem Low.refl (lo : Nat) (st : St) : Low lo st st := ⟨Nat.le_refl _, fun _ _ => rfl⟩
theorem Low.trans {lo : Nat} {a b c : St} (h : Low lo a b) (k : Low lo b c) : Low lo a c := ⟨Nat.le_trans h.ctr k.ctr, fun id hi => (k.box id hi).trans (h.box id hi)⟩
theorem Low.of {lo : Nat} {a b : St} (h : Keep a b) (hl : lo ≤ a.ctr) : Low lo a b := ⟨h.ctr, fun id hi => h.box id (by omega)⟩
theorem take_over (cs news : List V) (n : Nat) (h : n ≤ cs.length) : (over cs n news).take (n + news.length) = cs.take n ++ news := by
  unfold over
  rw [List.append_assoc, List.take_append, List.take_of_length_le (by simp; omega), List.length_take, Nat.min_eq_left h]
  congr 1
  rw [Nat.add_sub_cancel_left, List.take_append_of_le_length (by simp), List.take_of_length_le (by simp)]
theorem over_len (cs news : List V) (n : Nat) (h : n + news.length ≤ cs.length) : (over cs n news).length = cs.length := by
  unfold over; simp; omega
variable {P : Program} {T e : TypeId}
def vid : V → Nat → Prop
  | .ms id _ _ _ _, i => i = id
  | _, _ => False
theorem Mine.stab {lo : Nat} {e : TypeId} {st st' : St} {x : V} {l : List V} (h : Mine lo e st x l) (hc : st.ctr ≤ st'.ctr) (hb : ∀ i, vid x i → st'.box.get i = st.box.get i) : Mine lo e st' x l := by
  cases h with
  | nils => exact .nils
  | ms id n cap cs fl hlo hid hb' hn hcap => exact .ms id n cap cs fl hlo (Nat.lt_of_lt_of_le hid hc) (by rw [hb id rfl]; exact hb') hn hcap
theorem Mine.vid_lt {lo : Nat} {e : TypeId} {st : St} {x : V} {l : List V} (h : Mine lo e st x l) {i : Nat} (hi : vid x i) : lo ≤ i ∧ i < st.ctr := by
  cases h with
  | nils => exact hi.elim
  | ms id n cap cs fl hlo hid hb' hn hcap => obtain rfl := (show i = id from hi); exact ⟨hlo, hid⟩
theorem Mine.sim {lo : Nat} {e : TypeId} {st : St} {x : V} {l : List V} (h : Mine lo e st x l) : simV x = true := by cases h <;> rfl
theorem Mine.push2 {i : TypeInfo} {z : V} (hT : P.underlying T = some (.slice e)) (hi : P.info? e = some i) (hs : i.size = 1) (hzv : zeroT P e = some z) (hzc : z.cells.length = 1) {st : St} {x s : V} {l m : List V} {lo : Nat} (h : Mine lo e st x l)
    (hm : Behind st s m) (hlo : lo ≤ st.ctr) (hb1 : (l.length + m.length) * i.bytes ≤ maxBytes) (hb2 : l.length + m.length ≤ maxBytes) :
    ∃ y st', vappend P st T x s = some (y, st') ∧ Low lo st st' ∧ Mine lo e st' y (l ++ m) ∧ (∀ i, vid y i → vid x i ∨ st.ctr ≤ i) ∧ ∀ i, i < st.ctr → ¬ vid x i → st'.box.get i = st.box.get i := by
  obtain ⟨hsrc, hone⟩ := hm
  have h0 : Nat.beq 1 0 = false := rfl
  by_cases hme : m.length = 0
  · obtain rfl := List.length_eq_zero_iff.1 hme
    refine ⟨x, st, ?_, .refl _ _, by rw [List.append_nil]; exact h, fun i hi => .inl hi, fun _ _ _ => rfl⟩
    cases h with
    | nils => simp only [vappend, hT, hi, hs, hzv, hsrc, sliceCells]; rfl
    | ms id n cap cs fl hlo hid hb hn hcap =>
      have h1 : Nat.ble (0 + n * 1) cs.length = true := Nat.ble_eq_true_of_le (by omega)
      simp only [vappend, hT, hi, hs, hzv, hsrc, sliceCells, hb, h1]; rfl
  · have hmb : Nat.beq m.length 0 = false := by rw [beq_dec]; exact decide_eq_false hme
    have q1 : Nat.ble ((l.length + m.length) * i.bytes) maxBytes = true := Nat.ble_eq_true_of_le hb1
    have q2 : Nat.ble (l.length + m.length) maxBytes = true := Nat.ble_eq_true_of_le hb2
    have q3 : Nat.beq z.cells.length 1 = true := by rw [hzc]; rfl
    have knew : ∀ (cs : List V) (b : Tr Bx), (∀ id, id < lo → b.get id = st.box.get id) → Low lo st { ctr := st.ctr + 1, box := b.put st.ctr (.cells cs e false (some 0)) } := fun cs b hbx => ⟨Nat.le_succ _, fun id hid => by
      show (b.put st.ctr _).get id = _
      rw [Tr.get_put, if_neg (by omega)]; exact hbx id hid⟩
    have mnew : ∀ (b : Tr Bx), Mine lo e { ctr := st.ctr + 1, box := b.put st.ctr (.cells (l ++ m) e false (some 0)) } (.ms st.ctr 0 (l.length + m.length) 1 none) (l ++ m) := fun b => by
      have := Mine.ms (lo := lo) (e := e) (st := { ctr := st.ctr + 1, box := b.put st.ctr (.cells (l ++ m) e false (some 0)) }) st.ctr (l.length + m.length) none (l ++ m) false hlo (Nat.lt_succ_self _) (by show (b.put st.ctr _).get _ = _; rw [Tr.get_put, if_pos rfl]) (by simp) (fun c hc => by cases hc)
      rwa [List.take_of_length_le (by simp)] at this
    cases h with
    | nils =>
      refine ⟨.ms st.ctr 0 ([].length + m.length) 1 none, { ctr := st.ctr + 1, box := st.box.put st.ctr (.cells ([] ++ m) e false (some 0)) }, ?_, knew _ _ fun _ _ => rfl, mnew _, fun i hi => .inr (Nat.le_of_eq (show i = st.ctr from hi).symm), fun i hi _ => by show (st.box.put st.ctr _).get i = _; rw [Tr.get_put, if_neg (by omega)]⟩
      simp only [vappend, hT, hi, hs, h0, hzv, hsrc, sliceCells, hmb, q3, hone]
      rw [show Nat.ble ((0 + m.length) * i.bytes) maxBytes = true from q1, show Nat.ble (0 + m.length) maxBytes = true from q2]
      simp
    | ms id n cap cs fl hlo' hid hb hn hcap =>
      have h1 : Nat.ble (0 + n * 1) cs.length = true := Nat.ble_eq_true_of_le (by omega)
      have hlen : (cs.take n).length = n := by simp [Nat.min_eq_left hn]
      have hsub : sub cs 0 (n * 1) = cs.take n := by simp [sub]
      have e1 : Nat.beq 1 1 = true := rfl
      rw [hlen] at q1 q2 mnew
      have hgen : ∀ y st', (match roomOf cs.length 0 n m.length 1 cap with
          | .here => (match Nat.ble (0 + (n + m.length) * 1) cs.length && fzOk (some 0) (0 + n * 1) with
            | true => some (V.ms id 0 (n + m.length) 1 cap, { st with box := st.box.put id (.cells (over cs (0 + n * 1) m) e fl (some 0)) })
            | false => none)
          | .fresh => some (V.ms st.ctr 0 (n + m.length) 1 none, { ctr := st.ctr + 1, box := st.box.put st.ctr (.cells (cs.take n ++ m) e false (some 0)) })
          | .gone => (match fzOk (some 0) (0 + n * 1) && Nat.beq e e with
            | true => some (V.ms st.ctr 0 (n + m.length) 1 none, { ctr := st.ctr + 1, box := (st.box.del id).put st.ctr (.cells (cs.take n ++ m) e false (fzSub (some 0) 0)) })
            | false => none)) = some (y, st') → vappend P st T (.ms id 0 n 1 cap) s = some (y, st') := fun y st' hh => by
        simp only [vappend, hT, hi, hs, h0, hzv, hsrc, sliceCells, hb, h1, hmb, q1, q2, q3, hone, hsub, Bool.and_self, e1]
        exact hh
      have hfz : fzOk (some 0) (0 + n * 1) = true := Nat.ble_eq_true_of_le (Nat.zero_le _)
      have hee : Nat.beq e e = true := Nat.beq_refl e
      have here : n + m.length ≤ cs.length → (∀ c, cap = some c → n + m.length ≤ c) → (match Nat.ble (0 + (n + m.length) * 1) cs.length && fzOk (some 0) (0 + n * 1) with
            | true => some (V.ms id 0 (n + m.length) 1 cap, ({ st with box := st.box.put id (.cells (over cs (0 + n * 1) m) e fl (some 0)) } : St))
            | false => none) = some (V.ms id 0 (n + m.length) 1 cap, { st with box := st.box.put id (.cells (over cs n m) e fl (some 0)) }) ∧
          Low lo st { st with box := st.box.put id (.cells (over cs n m) e fl (some 0)) } ∧ Mine lo e { st with box := st.box.put id (.cells (over cs n m) e fl (some 0)) } (.ms id 0 (n + m.length) 1 cap) (cs.take n ++ m) := fun hle hc => by
        have h2 : Nat.ble (0 + (n + m.length) * 1) cs.length = true := Nat.ble_eq_true_of_le (by omega)
        refine ⟨by rw [h2, hfz, show 0 + n * 1 = n from by omega]; rfl, ⟨Nat.le_refl _, fun i hi => by show (st.box.put id _).get i = _; rw [Tr.get_put, if_neg (by omega)]⟩, ?_⟩
        have := Mine.ms (lo := lo) (e := e) (st := { st with box := st.box.put id (.cells (over cs n m) e fl (some 0)) }) id (n + m.length) cap (over cs n m) fl hlo' hid (by show (st.box.put id _).get _ = _; rw [Tr.get_put, if_pos rfl]) (by rw [over_len _ _ _ hle]; exact hle) (fun c hc' => by rw [over_len _ _ _ hle]; exact ⟨hc c hc', (hcap c hc').2⟩)
        rwa [take_over _ _ _ hn] at this
      cases cap with
      | some c =>
        by_cases hc : n + m.length ≤ c
        · obtain ⟨a1, a2, a3⟩ := here (by have := (hcap c rfl).2; omega) (fun c' hc' => by cases hc'; exact hc)
          refine ⟨_, _, hgen _ _ ?_, a2, a3, fun i hi => .inl hi, fun i hi hn => by show (st.box.put id _).get i = _; rw [Tr.get_put, if_neg (show ¬ i = id from hn)]⟩
          rw [show roomOf cs.length 0 n m.length 1 (some c) = .here from by simp only [roomOf, Nat.ble_eq_true_of_le hc]]
          exact a1
        · refine ⟨_, _, hgen (.ms st.ctr 0 (n + m.length) 1 none) { ctr := st.ctr + 1, box := st.box.put st.ctr (.cells (cs.take n ++ m) e false (some 0)) } ?_, knew _ _ fun _ _ => rfl, mnew _, fun i hi => .inr (Nat.le_of_eq (show i = st.ctr from hi).symm), fun i hi _ => by show (st.box.put st.ctr _).get i = _; rw [Tr.get_put, if_neg (by omega)]⟩
          have hcb : Nat.ble (n + m.length) c = false := by
            cases hx : Nat.ble (n + m.length) c with
            | false => rfl
            | true => exact absurd (Nat.le_of_ble_eq_true hx) hc
          rw [show roomOf cs.length 0 n m.length 1 (some c) = .fresh from by simp only [roomOf, hcb]]
      | none =>
        by_cases hc : n + m.length ≤ cs.length
        · obtain ⟨a1, a2, a3⟩ := here hc (fun c' hc' => by cases hc')
          refine ⟨_, _, hgen _ _ ?_, a2, a3, fun i hi => .inl hi, fun i hi hn => by show (st.box.put id _).get i = _; rw [Tr.get_put, if_neg (show ¬ i = id from hn)]⟩
          rw [show roomOf cs.length 0 n m.length 1 none = .here from by simp only [roomOf, Nat.ble_eq_true_of_le (show 0 + (n + m.length) * 1 ≤ cs.length by omega)]]
          exact a1
        · refine ⟨_, _, hgen (.ms st.ctr 0 (n + m.length) 1 none) { ctr := st.ctr + 1, box := (st.box.del id).put st.ctr (.cells (cs.take n ++ m) e false (some 0)) } ?_, knew _ _ fun i hi => by rw [Tr.get_del, if_neg (by omega)], mnew _, fun i hi => .inr (Nat.le_of_eq (show i = st.ctr from hi).symm), fun i hi hn => by show ((st.box.del id).put st.ctr _).get i = _; rw [Tr.get_put, if_neg (by omega), Tr.get_del, if_neg (show ¬ i = id from hn)]⟩
          have hcb : Nat.ble (0 + (n + m.length) * 1) cs.length = false := by
            cases hx : Nat.ble (0 + (n + m.length) * 1) cs.length with
            | false => rfl
            | true => exact absurd (Nat.le_of_ble_eq_true hx) (by omega)
          rw [show roomOf cs.length 0 n m.length 1 none = .gone from by simp only [roomOf, hcb]]
          simp only [hfz, hee, Bool.and_self]
          rfl
theorem Mine.push {i : TypeInfo} {z : V} (hT : P.underlying T = some (.slice e)) (hi : P.info? e = some i) (hs : i.size = 1) (hzv : zeroT P e = some z) (hzc : z.cells.length = 1) {st : St} {x s : V} {l m : List V} {lo : Nat} (h : Mine lo e st x l)
    (hm : Behind st s m) (hlo : lo ≤ st.ctr) (hb1 : (l.length + m.length) * i.bytes ≤ maxBytes) (hb2 : l.length + m.length ≤ maxBytes) :
    ∃ y st', vappend P st T x s = some (y, st') ∧ Low lo st st' ∧ Mine lo e st' y (l ++ m) ∧ ∀ i, vid y i → vid x i ∨ st.ctr ≤ i := by
  obtain ⟨y, st', h1, h2, h3, h4, _⟩ := h.push2 hT hi hs hzv hzc hm hlo hb1 hb2
  exact ⟨y, st', h1, h2, h3, h4⟩
theorem Mine.len (hT : P.underlying T = some (.slice e)) {st : St} {x : V} {l : List V} {lo : Nat} (h : Mine lo e st x l) : vlen P T x = some (.int .i64 (l.length : Int)) := by
  cases h with
  | nils => simp [vlen, hT]
  | ms id n cap cs fl hlo hid hb hn hcap => simp [vlen, hT, Nat.min_eq_left hn]
theorem Mine.ix (hT : P.underlying T = some (.slice e)) (hz : sizeT P e = some 1) {st : St} {x : V} {l : List V} {lo : Nat} (h : Mine lo e st x l) {k : IntKind} {a : Int} (h0 : 0 ≤ a) (h1 : a < (l.length : Int)) :
    vindexAddr P T x (.int k a) = some (adr 1 x a.toNat) := by
  have h2 := asNat_pos (k := k) h0
  cases h with
  | nils => simp at h1; omega
  | ms id n cap cs fl hlo hid hb hn hcap =>
    have hb : Nat.blt a.toNat n = true := by rw [blt_dec]; simp at h1; exact decide_eq_true (by omega)
    simp only [vindexAddr, hT, h2, hz, hb, adr]
theorem Mine.mk {lo : Nat} {st : St} {id n : Nat} {cs : List V} {fl : Bool} (hlo : lo ≤ id) (hid : id < st.ctr) (hb : st.box.get id = some (.cells cs e fl (some 0))) (hn : cs.length = n) : Mine lo e st (.ms id 0 n 1 (some n)) cs := by
  have := Mine.ms (lo := lo) (e := e) (st := st) id n (some n) cs fl hlo hid hb (by omega) (fun c hc => by cases hc; omega)
  rwa [List.take_of_length_le (by omega)] at this
end Go.Vm
namespace Go.Vm
open Go Go.Proofs Go.Pa
attribute [local simp] OkG xOpsG wantG OkD OkRuns xOps xDrawL vwanted isDefer vop kindOf vpure ev evs toV atTo_some Fr.dsTo Fr.glTo Fr.toNone initFr_at initFr_ds initFr_gl veff vact traverse tupled vresult V.undef evOpt sameIn nn_eql nn_neq nn_lss nn_leq nn_gtr nn_geq nl_eql nl_neq nl_lss nl_leq nl_gtr nl_geq vbin_seql vbin_sneq vload_ctr vbin_add vbin_sub wrap_i64 veq_str veq_int fcp0 fcp1 fcp2 fcp3 fcp4 fcp5 fg0 fg1 fg2 fg3 fg4 fg5
set_option maxRecDepth 100000 in
theorem i9 : ∃ i, Tryz.prog.info? 9 = some i ∧ i.size = 1 ∧ i.bytes ≤ 64 := ⟨_, rfl, by decide, by decide⟩
theorem zs9 : zeroT Tryz.prog 9 = some (.str ⟨0, 0⟩) := by kernel_rfl
theorem bs0 : vbuildSlice Tryz.prog 23 0 [] = some ([], 9, 1) := by kernel_rfl
theorem bs1 (s : S) : vbuildSlice Tryz.prog 23 1 [(0, .str s)] = some ([.str s], 9, 1) := by kernel_rfl
theorem push23 {st : St} {x s : V} {l m : List V} {lo : Nat} (h : Mine lo 9 st x l) (hm : Behind st s m) (hlo : lo ≤ st.ctr) (hb : l.length + m.length ≤ 1000000) :
    ∃ y st', vappend Tryz.prog st 23 x s = some (y, st') ∧ Low lo st st' ∧ Mine lo 9 st' y (l ++ m) ∧ ∀ i, vid y i → vid x i ∨ st.ctr ≤ i := by
  obtain ⟨i, hi, h1, h2⟩ := i9
  refine h.push Tryz.underlying23 hi h1 zs9 rfl hm hlo ?_ (by simp [maxBytes]; omega)
  refine Nat.le_trans (Nat.mul_le_mul hb h2) (by simp [maxBytes])
theorem nil23 {st : St} {x : V} {l : List S} (hx : Vw st x l) : ∃ b, (∀ kk, vbin Tryz.prog kk .eql 23 x .nils = some (.bool b)) ∧ (b = true → l = []) := by
  cases hx with
  | nils => exact ⟨true, fun kk => by cases kk <;> kernel_rfl, fun _ => rfl⟩
  | sl l ex => exact ⟨false, fun kk => by simp only [vbin, Tryz.underlying23], fun h => by cases h⟩
  | ms => exact ⟨false, fun kk => by simp only [vbin, Tryz.underlying23], fun h => by cases h⟩
theorem newS {lo : Nat} {st : St} {cs : List V} (hlo : lo ≤ st.ctr) : Mine lo 9 (st.new (.cells cs 9 true (some 0))) (.ms st.ctr 0 cs.length 1 (some cs.length)) cs :=
  Mine.mk hlo (Nat.lt_succ_self _) (by rw [new_get, if_pos rfl]) rfl
def lessL : List S → List S → Bool
  | [], [] => false
  | [], _ :: _ => true
  | _ :: _, [] => false
  | a :: x, b :: y => cond (a.same b) (lessL x y) (a.less b)
def nameOf (f : Fw) (n : Int) : S := match f.kids.findIdx? (fun k => decide (k = n)) with
  | some i => f.names.getD i ⟨0, 0⟩
  | none => ⟨0, 0⟩
def upOf (l : List Fw) (n : Nat) : Nat := (aboveL l (n : Int)).toNat
def placeT (l : List Fw) : Nat → Nat → List S
  | 0, _ => []
  | d + 1, n => match n, l[upOf l n]? with
    | 0, _ => []
    | _, some f => placeT l d (upOf l n) ++ [nameOf f (n : Int)]
    | _, none => []
def placeL (l : List Fw) (n : Nat) : List S := placeT l (n + 1) n
def noneTo (n : Int) (ks : List Int) (i : Nat) : Prop := ∀ j (h : j < ks.length), j < i → ks[j] ≠ n
theorem nameOf_at {f : Fw} {n : Int} {i : Nat} (hi : i < f.kids.length) (h : noneTo n f.kids i) (hn : f.kids[i] = n) (hl : i < f.names.length) : nameOf f n = f.names[i] := by
  have h1 : f.kids.findIdx? (fun k => decide (k = n)) = some i := by
    rw [List.findIdx?_eq_some_iff_getElem]
    exact ⟨hi, by simp [hn], fun j hj => by have := h j (by omega) hj; simp [this]⟩
  unfold nameOf
  rw [h1]
  exact getD_at hl
theorem nameOf_no {f : Fw} {n : Int} (h : noneTo n f.kids f.kids.length) : nameOf f n = ⟨0, 0⟩ := by
  have h1 : f.kids.findIdx? (fun k => decide (k = n)) = none := by
    rw [List.findIdx?_eq_none_iff]
    intro k hk
    obtain ⟨j, hj, rfl⟩ := List.getElem_of_mem hk
    simp [h j hj hj]
  unfold nameOf
  rw [h1]
theorem upOf_lt {l : List Fw} (hm : MayF l) {m : Nat} (h1 : 1 ≤ m) (h2 : m < l.length) : upOf l m < m ∧ upOf l m < l.length ∧ aboveL l (m : Int) = (upOf l m : Int) ∧ ∃ h : upOf l m < l.length, (m : Int) ∈ (l[upOf l m]'h).kids := by
  obtain ⟨j, hj, hk, ha⟩ := aboveL_of (hm.once m h1 h2)
  have := hm.kid j hj _ hk
  have e : upOf l m = j := by unfold upOf; rw [ha]; rfl
  rw [e]
  exact ⟨by omega, hj, ha, hj, hk⟩
theorem placeT_s {l : List Fw} {d n : Nat} {f : Fw} (h : l[upOf l (n + 1)]? = some f) : placeT l (d + 1) (n + 1) = placeT l d (upOf l (n + 1)) ++ [nameOf f ((n + 1 : Nat) : Int)] := by
  simp only [placeT, h]
theorem placeT_eq {l : List Fw} (hm : MayF l) : ∀ (d n : Nat), n < l.length → n < d → placeT l d n = placeT l (n + 1) n
  | 0, n, _, h => absurd h (Nat.not_lt_zero n)
  | d + 1, 0, _, _ => rfl
  | d + 1, n + 1, hn, h => by
    obtain ⟨u1, u2, _, _⟩ := upOf_lt hm (Nat.succ_le_succ (Nat.zero_le n)) hn
    have hl := List.getElem?_eq_getElem u2
    rw [placeT_s hl, placeT_s hl, placeT_eq hm d _ u2 (by omega), placeT_eq hm (n + 1) _ u2 u1]
theorem placeL_zero (l : List Fw) : placeL l 0 = [] := rfl
theorem placeL_step {l : List Fw} (hm : MayF l) {m : Nat} (h1 : 1 ≤ m) (h2 : m < l.length) : placeL l m = placeL l (upOf l m) ++ [nameOf (l[upOf l m]'(upOf_lt hm h1 h2).2.1) (m : Int)] := by
  obtain ⟨u1, u2, _, _⟩ := upOf_lt hm h1 h2
  match m, h1 with
  | m + 1, _ =>
    have hl := List.getElem?_eq_getElem u2
    unfold placeL
    rw [placeT_s hl, placeT_eq hm (m + 1) _ u2 u1]
def placeE (may : Bool) (l : List Fw) (n : Int) : Nat := cond may (cond (decide (0 ≤ n) && decide (n < (l.length : Int))) 0 1) 4
def placeS (may : Bool) (l : List Fw) (n : Int) : List S := cond (may && (decide (0 ≤ n) && decide (n < (l.length : Int)))) (placeL l n.toNat) []
def PlaceR (lo : Nat) (may : Bool) (l : List Fw) (n : Int) (st' : St) (v : V) : Prop := ∃ y, v = .tup [y, .int .i64 (placeE may l n : Int)] ∧ Mine lo 9 st' y ((placeS may l n).map .str)
variable [Memo] [NY]
set_option maxRecDepth 100000 in
theorem clone_ok (gl : Gl) (st : St) (x : V) (l : List S) (hx : Vw st x l) (hl : l.length ≤ 1000) :
    Says Tryz.prog gl 32 [x] st (fun v st' => Mine st.ctr 9 st' v (l.map .str) ∧ Keep st st') := by
  refine saysK (NY.no _ rfl rfl rfl _ _) Tryz.func32 rfl (by kernel_rfl) fun R hR K gr gn => ?_
  generalize hfr : initFr gl [x] = fr
  have hF : Fs gl [(0, x)] fr := by subst hfr; simp [Fs]
  simp only [Fs] at hF
  clear hfr
  obtain ⟨b, hb, hbl⟩ := nil23 hx
  refine DoK.seq ?_
  refine DoK.regG (gs := [none]) (by kernel_rfl) fun K1 gK => ?_
  simp (maxSteps := 1000000) (disch := omega) []
  refine gK _ _ ?_
  clear gK K1
  refine DoK.seq ?_
  refine DoK.seq ?_
  refine DoK.regG (gs := [none, none]) (by kernel_rfl) fun K1 gK => ?_
  simp (maxSteps := 1000000) (disch := omega) [hF, hb]
  refine gK _ _ ?_
  clear gK K1
  cases b with
  | true =>
    refine DoK.condT (by simp (maxSteps := 1000000) (disch := omega) []) ?_
    refine DoK.seq ?_
    refine DoK.regG (gs := [none]) (by kernel_rfl) fun K1 gK => ?_
    simp (maxSteps := 1000000) (disch := omega) []
    refine gK _ _ ?_
    clear gK K1
    refine DoK.ret (gr _ _ ?_)
    simp [Ends, Tryz.f32, hF]
    refine hR _ _ ?_
    rw [hbl rfl]
    exact ⟨.nils, .refl _⟩
  | false =>
    refine DoK.condF (by simp (maxSteps := 1000000) (disch := omega) []) ?_
    have hm0 := newS (lo := st.ctr) (st := st) (cs := []) (Nat.le_refl _)
    have hk0 := (Keep.refl st).new' (.cells [] 9 true (some 0))
    obtain ⟨y, s2, ha, hl2, hm2, _⟩ := push23 hm0 (hx.keep hk0).srcs (by simp [new_ctr]) (by simp; omega)
    simp only [List.length_nil] at ha
    have hfold : ({ ctr := st.ctr + 1, box := st.box.put st.ctr (.cells [] 9 true (some 0)) } : St) = st.new (.cells [] 9 true (some 0)) := rfl
    refine DoK.skip ?_
    refine DoK.seq ?_
    refine DoK.regG (gs := [none, none, none, none]) (by kernel_rfl) fun K1 gK => ?_
    simp (maxSteps := 1000000) (disch := omega) [hF, bs0, ha, hfold, valloc, evParts, mkRef, Tryz.underlying23]
    refine gK _ _ ?_
    clear gK K1
    refine DoK.ret (gr _ _ ?_)
    simp [Ends, Tryz.f32, hF]
    refine hR _ _ ?_
    exact ⟨hm2, hl2.keep hk0 (Nat.le_refl _)⟩
set_option maxRecDepth 100000 in
theorem name_ok (gl : Gl) (st : St) (f : Fw) (n : Int) (hok : f.ok) (hs : f.small) (hlen : f.names.length = f.kids.length) :
    Says Tryz.prog gl 36 [.agg f.cells, .int .i64 n] st (fun v st' => v = .str (nameOf f n) ∧ Keep st st') := by
  refine saysK (NY.no _ rfl rfl rfl _ _) Tryz.func36 rfl (by kernel_rfl) fun R hR K gr gn => ?_
  generalize hfr : initFr gl [.agg f.cells, .int .i64 n] = fr
  have hF : Fs gl [(0, .agg f.cells), (1, .int .i64 n)] fr := by subst hfr; simp [Fs]
  simp only [Fs] at hF
  clear hfr
  have ho := Fw.ones hok
  have hk1 := newFact_keep st f
  have b1 := newFact_box st f
  have hct := newFact_ctr st f
  have hnf : ({ ctr := st.ctr + 1, box := st.box.put st.ctr (.cells f.cells 38 true (some 0)) } : St) = newFact st f := rfl
  have lk := hok.kids.len Tryz.underlying36
  have l2 := vload_of (P := Tryz.prog) (off := 2) a23 z23 b1 rfl
  have l3 := vload_of (P := Tryz.prog) (off := 3) a36 z36 b1 rfl
  have hvq : veq 1000000000 f.nv f.nv = true := veq_self _ (by have := vsz_names hok.names; have := hs.names; omega)
  have hk60 := hs.kids
  have hks : ∀ {k : IntKind} {a : Int}, 0 ≤ a → a < (f.kids.length : Int) → vindexAddr Tryz.prog 36 f.kv (.int k a) = some (.cp (radr iC f.kids a.toNat)) := fun h0 h1 => hok.kids.ix (z := 1) (fun _ _ => rfl) Tryz.underlying36 z3 h0 h1
  have hns : ∀ {k : IntKind} {a : Int}, 0 ≤ a → a < (f.names.length : Int) → vindexAddr Tryz.prog 23 f.nv (.int k a) = some (adr 1 f.nv a.toNat) := fun h0 h1 => (hok.names.vw st).ix Tryz.underlying23 z9 h0 h1
  refine DoK.seq ?_
  refine DoK.regG (gs := [none, none]) (by kernel_rfl) fun K1 gK => ?_
  simp (maxSteps := 1000000) (disch := omega) [hF, ho, hnf, valloc, V.cells, mkRef]
  refine gK _ _ ?_
  clear gK K1
  refine DoK.seq ?_
  refine DoK.seq ?_
  refine DoK.regG (gs := [none]) (by kernel_rfl) fun K1 gK => ?_
  simp (maxSteps := 1000000) (disch := omega) []
  refine gK _ _ ?_
  clear gK K1
  refine DoK.loop (f.kids.length) (fun i fr st' => Fs gl [(1, .int .i64 n), (2, .ptr st.ctr 0), (5, .int .i64 (i : Int))] fr ∧ i ≤ f.kids.length ∧ st' = newFact st f ∧ noneTo n f.kids i) (0) (fun fr st' => Fs gl [] fr ∧ st' = newFact st f ∧ noneTo n f.kids f.kids.length) ?_ ?_ ?_ ?_
  · exact ⟨by simp [Fs, hF], Nat.zero_le _, rfl, fun j _ h => absurd h (Nat.not_lt_zero j)⟩
  · rintro i fr st' ⟨_, hi, hst, hno⟩
    omega
  · as_aux_lemma =>
    clear hF
    rintro i fr st' ⟨hF, hi, hst, hno⟩ K1 gk1 gx1 go1
    simp only [Fs] at hF
    have gr1 := fun fr st h => go1 AE.ret fr st trivial (gr fr st h)
    subst hst
    refine DoK.seq ?_
    refine DoK.seq ?_
    refine DoK.regG (gs := [none, none, none, none, none]) (by kernel_rfl) fun K1 gK => ?_
    simp (maxSteps := 1000000) (disch := omega) [hF, lk, l3]
    refine gK _ _ ?_
    clear gK K1
    by_cases hlt : i < f.kids.length
    ·
      refine DoK.condT (by simp (maxSteps := 1000000) (disch := omega) [hlt]) ?_
      have hin : i < f.names.length := by omega
      have hkd := fun st => ilp (st := st) hlt
      have hnd := (hok.names.vw (newFact st f)).ld z9 a9 hin
      refine DoK.skip ?_
      refine DoK.seq ?_
      refine DoK.block fun K2 gn2 gx2 go2 => ?_
      have gr2 := fun fr st h => go2 AE.ret fr st trivial (gr1 fr st h)
      have gx2_0 := fun fr st h => go2 (AE.exit 0) fr st (show (0 : Nat) ≠ 1 by decide) (gx1 fr st h)
      refine DoK.seq ?_
      refine DoK.regG (gs := [none, none, none, none, none, none, none]) (by kernel_rfl) fun K1 gK => ?_
      simp (maxSteps := 1000000) (disch := omega) [hF, hks, l3, hlt, hkd]
      refine gK _ _ ?_
      clear gK K1
      by_cases he : f.kids[i] = n
      ·
        refine DoK.condT (by simp (maxSteps := 1000000) (disch := omega) [he]) ?_
        refine DoK.seq ?_
        refine DoK.regG (gs := [none, none, none, none, none, none]) (by kernel_rfl) fun K1 gK => ?_
        simp (maxSteps := 1000000) (disch := omega) [hF, hns, l2, hnd, he]
        refine gK _ _ ?_
        clear gK K1
        refine DoK.ret (gr2 _ _ ?_)
        simp [Ends, Tryz.f36, hF]
        refine hR _ _ ?_
        exact ⟨by rw [nameOf_at hlt hno he hin], hk1⟩
      ·
        refine DoK.condF (by simp (maxSteps := 1000000) (disch := omega) [he]) ?_
        refine DoK.skip ?_
        refine gn2 _ _ ?_
        refine DoK.regG (gs := [none, none, none]) (by kernel_rfl) fun K1 gK => ?_
        simp (maxSteps := 1000000) (disch := omega) [hF]
        refine gK _ _ ?_
        clear gK K1
        refine gk1 (i + 1) _ _ (by omega) ⟨by simp [Fs, hF], by omega, rfl, fun j hj hji => by (by_cases hjj : j = i; · subst hjj; exact he); exact hno j hj (by omega)⟩
    ·
      refine DoK.condF (by simp (maxSteps := 1000000) (disch := omega) [hlt]) ?_
      exact DoK.exit (gx1 _ _ ⟨by simp [Fs, hF, hlt], rfl, by rw [show f.kids.length = i from by omega]; exact hno⟩)
  · as_aux_lemma =>
    clear hF
    rintro fr st' ⟨hF, hst, hno⟩
    simp only [Fs] at hF
    subst hst
    refine DoK.seq ?_
    refine DoK.regG (gs := [none]) (by kernel_rfl) fun K1 gK => ?_
    simp (maxSteps := 1000000) (disch := omega) []
    refine gK _ _ ?_
    clear gK K1
    refine DoK.ret (gr _ _ ?_)
    simp [Ends, Tryz.f36, hF]
    refine hR _ _ ?_
    exact ⟨by rw [nameOf_no hno]; rfl, hk1⟩
set_option maxRecDepth 100000 in
theorem rPlace (gl : Gl) (st : St) (x : V) (l : List Fw) (n : Int) (hx : Row Fw.cells x l) (hok : ∀ f ∈ l, f.ok) (hs : ∀ f ∈ l, f.small) (hl : l.length ≤ 60) :
    Says Tryz.prog gl 14 [x, .int .i64 n] st (fun v st' => PlaceR st.ctr (mayR l) l n st' v ∧ Keep st st') := by
  refine saysK (NY.no _ rfl rfl rfl _ _) Tryz.func14 rfl (by kernel_rfl) fun R hR K gr gn => ?_
  generalize hfr : initFr gl [x, .int .i64 n] = fr
  have hF : Fs gl [(0, x), (1, .int .i64 n)] fr := by subst hfr; simp [Fs]
  simp only [Fs] at hF
  clear hfr
  obtain ⟨v, s1, hc, rfl, hk1⟩ := Says.use (rMayP_ok gl st x l hx hok hs hl) (by kernel_rfl)
  have hm := mayR_iff (l := l)
  have lx := hx.len Tryz.underlying22
  have hix : ∀ {k : IntKind} {a : Int}, 0 ≤ a → a < (l.length : Int) → vindexAddr Tryz.prog 22 x (.int k a) = some (.cp (radr Fw.cells l a.toNat)) := fun h0 h1 => hx.ix (fun f _ => f.len6) Tryz.underlying22 z38 h0 h1
  generalize mayR l = M at hc hm hR
  refine DoK.seq ?_
  refine DoK.regG (gs := [none, none]) (by kernel_rfl) fun K1 gK => ?_
  simp (maxSteps := 1000000) (disch := omega) []
  refine gK _ _ ?_
  clear gK K1
  refine DoK.seq ?_
  refine DoK.seq ?_
  refine DoK.regG (gs := [none, none, none]) (by kernel_rfl) fun K1 gK => ?_
  simp (maxSteps := 1000000) (disch := omega) [hF, hc]
  refine gK _ _ ?_
  clear gK K1
  cases M with
  | true =>
    refine DoK.condF (by simp (maxSteps := 1000000) (disch := omega) []) ?_
    have hmf := hm.1 rfl
    by_cases h0 : n < 0
    ·
      refine DoK.skip ?_
      refine DoK.seq ?_
      refine DoK.seq ?_
      refine DoK.regG (gs := [none, none, none, some (some 13, false), some (some 13, false), some (some 13, false), some (some 13, false), none]) (by kernel_rfl) fun K1 gK => ?_
      simp (maxSteps := 1000000) (disch := omega) [hF, h0, vbin_lss]
      refine gK _ _ ?_
      clear gK K1
      refine DoK.condT (by simp (maxSteps := 1000000) (disch := omega) []) ?_
      refine DoK.seq ?_
      refine DoK.regG (gs := [none, none]) (by kernel_rfl) fun K1 gK => ?_
      simp (maxSteps := 1000000) (disch := omega) []
      refine gK _ _ ?_
      clear gK K1
      refine DoK.ret (gr _ _ ?_)
      simp [Ends, Tryz.f14, hF]
      refine hR _ _ ?_
      exact ⟨⟨.nils, by simp [placeE, show ¬ 0 ≤ n by omega], by simp [placeS, show ¬ 0 ≤ n by omega]; exact .nils⟩, hk1⟩
    ·
      by_cases h1 : (l.length : Int) ≤ n
      ·
        refine DoK.skip ?_
        refine DoK.seq ?_
        refine DoK.seq ?_
        refine DoK.regG (gs := [none, none, none, some (some 13, false), some (some 13, false), some (some 13, false), some (some 13, false), none]) (by kernel_rfl) fun K1 gK => ?_
        simp (maxSteps := 1000000) (disch := omega) [hF, lx, h0, h1, vbin_lss, vbin_geq]
        refine gK _ _ ?_
        clear gK K1
        refine DoK.condT (by simp (maxSteps := 1000000) (disch := omega) []) ?_
        refine DoK.seq ?_
        refine DoK.regG (gs := [none, none]) (by kernel_rfl) fun K1 gK => ?_
        simp (maxSteps := 1000000) (disch := omega) []
        refine gK _ _ ?_
        clear gK K1
        refine DoK.ret (gr _ _ ?_)
        simp [Ends, Tryz.f14, hF]
        refine hR _ _ ?_
        exact ⟨⟨.nils, by simp [placeE, show ¬ n < (l.length : Int) by omega], by simp [placeS, show ¬ n < (l.length : Int) by omega]; exact .nils⟩, hk1⟩
      ·
        obtain ⟨n0, rfl⟩ := Int.eq_ofNat_of_zero_le (show 0 ≤ n by omega)
        have hn0 : n0 < l.length := by omega
        refine DoK.skip ?_
        refine DoK.seq ?_
        refine DoK.seq ?_
        refine DoK.regG (gs := [none, none, none, some (some 13, false), some (some 13, false), some (some 13, false), some (some 13, false), none]) (by kernel_rfl) fun K1 gK => ?_
        simp (maxSteps := 1000000) (disch := omega) [hF, lx, h0, h1, vbin_lss, vbin_geq]
        refine gK _ _ ?_
        clear gK K1
        refine DoK.condF (by simp (maxSteps := 1000000) (disch := omega) []) ?_
        refine DoK.skip ?_
        refine DoK.seq ?_
        refine DoK.regG (gs := [none]) (by kernel_rfl) fun K1 gK => ?_
        simp (maxSteps := 1000000) (disch := omega) []
        refine gK _ _ ?_
        clear gK K1
        refine DoK.seq ?_
        refine DoK.loop (l.length) (fun i fr st' => ∃ (m : Nat) (y : V) (acc : List S), Fs gl [(0, x), (1, .int .i64 (m : Int)), (6, y)] fr ∧ m + i ≤ l.length ∧ m < l.length ∧ Mine st.ctr 9 st' y (acc.map .str) ∧ placeL l n0 = placeL l m ++ acc ∧ acc.length ≤ i ∧ Keep st st') (0) (fun fr st' => ∃ (y : V), Fs gl [(6, y)] fr ∧ Mine st.ctr 9 st' y ((placeL l n0).map .str) ∧ Keep st st') ?_ ?_ ?_ ?_
        · exact ⟨n0, .nils, [], by simp [Fs, hF], by omega, hn0, .nils, by simp, by simp, hk1⟩
        · rintro i fr st' ⟨m, y, acc, _, hmi, hml, hmine, hpl, hal, hk⟩
          omega
        · as_aux_lemma =>
          clear hF
          rintro i fr st' ⟨m, y, acc, hF, hmi, hml, hmine, hpl, hal, hk⟩ K3 gk3 gx3 go3
          simp only [Fs] at hF
          have gr3 := fun fr st h => go3 AE.ret fr st trivial (gr fr st h)
          refine DoK.seq ?_
          refine DoK.seq ?_
          refine DoK.regG (gs := [none, none]) (by kernel_rfl) fun K1 gK => ?_
          simp (maxSteps := 1000000) (disch := omega) [hF]
          refine gK _ _ ?_
          clear gK K1
          by_cases hpos : 0 < m
          ·
            refine DoK.condT (by simp (maxSteps := 1000000) (disch := omega) [hpos]) ?_
            obtain ⟨u1, u2, ha, u3, hmem⟩ := upOf_lt hmf hpos hml
            have hstep := placeL_step hmf hpos hml
            obtain ⟨v, s2, hca, rfl, hs2⟩ := Says.use (above_ok gl st' x l (m : Int) hx hok hs hl) (by kernel_rfl)
            rw [show s2 = st' from hs2, ha] at hca
            clear hs2
            have hfo := hok _ (List.getElem_mem u2)
            have hfs := hs _ (List.getElem_mem u2)
            obtain ⟨v, s3, hcn, rfl, hk3⟩ := Says.use (name_ok gl st' l[upOf l m] (m : Int) hfo hfs (oneB_len (hmf.one _ u2))) (by kernel_rfl)
            have hk4 := (hk.trans hk3).new' (.cells [.str (nameOf l[upOf l m] (m : Int))] 9 true (some 0))
            have hk34 := hk3.new' (.cells [.str (nameOf l[upOf l m] (m : Int))] 9 true (some 0))
            have hm0 := newS (lo := st.ctr) (st := s3) (cs := [.str (nameOf l[upOf l m] (m : Int))]) (hk.trans hk3).ctr
            obtain ⟨y2, s5, hap, hl5, hm5, _⟩ := push23 hm0 ((hmine.keep hk34).src (all_str acc)) (by have := (hk.trans hk3).ctr; simp [new_ctr]; omega) (by simp; omega)
            simp only [List.length_cons, List.length_nil] at hap
            have hfold : ({ ctr := s3.ctr + 1, box := s3.box.put s3.ctr (.cells [.str (nameOf l[upOf l m] (m : Int))] 9 true (some 0)) } : St) = s3.new (.cells [.str (nameOf l[upOf l m] (m : Int))] 9 true (some 0)) := rfl
            refine DoK.skip ?_
            refine DoK.block fun K4 gn4 gx4 go4 => ?_
            have gr4 := fun fr st h => go4 AE.ret fr st trivial (gr3 fr st h)
            have gx4_0 := fun fr st h => go4 (AE.exit 0) fr st (show (0 : Nat) ≠ 1 by decide) (gx3 fr st h)
            refine DoK.seq ?_
            refine DoK.regG (gs := [none, none, none, none]) (by kernel_rfl) fun K1 gK => ?_
            simp (maxSteps := 1000000) (disch := omega) [hF, hpos, hca]
            refine gK _ _ ?_
            clear gK K1
            refine DoK.seq ?_
            refine DoK.regG (gs := [none, none, none, none, none, none, none, none, none, none]) (by kernel_rfl) fun K1 gK => ?_
            simp (maxSteps := 1000000) (disch := omega) [hF, hix, flp, hcn, bs1, hfold, hap, valloc, evParts, mkRef, oneC, Tryz.underlying23]
            refine gK _ _ ?_
            clear gK K1
            refine DoK.regG (gs := [none, none]) (by kernel_rfl) fun K1 gK => ?_
            simp (maxSteps := 1000000) (disch := omega) []
            refine gK _ _ ?_
            clear gK K1
            refine gn4 _ _ ?_
            refine gk3 (i + 1) _ _ (by omega) ⟨upOf l m, y2, nameOf l[upOf l m] (m : Int) :: acc, by simp [Fs, hF], by omega, u2, by simpa using hm5, by rw [hpl, hstep]; simp, by simp; omega, hl5.keep hk4 (Nat.le_refl _)⟩
          ·
            refine DoK.condF (by simp (maxSteps := 1000000) (disch := omega) [hpos]) ?_
            exact DoK.exit (gx3 _ _ ⟨y, by simp [Fs, hF, hpos], by rw [hpl, show m = 0 from by omega, placeL_zero]; exact hmine, hk⟩)
        · as_aux_lemma =>
          clear hF
          rintro fr st' ⟨y, hF, hmine, hk⟩
          simp only [Fs] at hF
          refine DoK.seq ?_
          refine DoK.regG (gs := [none, none, none]) (by kernel_rfl) fun K1 gK => ?_
          simp (maxSteps := 1000000) (disch := omega) [hF]
          refine gK _ _ ?_
          clear gK K1
          refine DoK.ret (gr _ _ ?_)
          simp [Ends, Tryz.f14, hF]
          refine hR _ _ ?_
          exact ⟨⟨y, by simp [placeE, hn0], by simpa [placeS, hn0] using hmine⟩, hk⟩
  | false =>
    refine DoK.condT (by simp (maxSteps := 1000000) (disch := omega) []) ?_
    refine DoK.seq ?_
    refine DoK.regG (gs := [none, none]) (by kernel_rfl) fun K1 gK => ?_
    simp (maxSteps := 1000000) (disch := omega) []
    refine gK _ _ ?_
    clear gK K1
    refine DoK.ret (gr _ _ ?_)
    simp [Ends, Tryz.f14, hF]
    refine hR _ _ ?_
    exact ⟨⟨.nils, rfl, .nils⟩, hk1⟩
set_option maxRecDepth 100000 in
theorem less_ok (gl : Gl) (st : St) (x y : V) (a b : List S) (hx : Vw st x a) (hy : Vw st y b) (ha : a.length < 1000000) (hb : b.length < 1000000) :
    Says Tryz.prog gl 44 [x, y] st (fun v st' => v = .bool (lessL a b) ∧ Keep st st') := by
  refine saysK (NY.no _ rfl rfl rfl _ _) Tryz.func44 rfl (by kernel_rfl) fun R hR K gr gn => ?_
  generalize hfr : initFr gl [x, y] = fr
  have hF : Fs gl [(0, x), (1, y)] fr := by subst hfr; simp [Fs]
  simp only [Fs] at hF
  clear hfr
  have lx := hx.len Tryz.underlying23
  have ly := hy.len Tryz.underlying23
  refine DoK.seq ?_
  refine DoK.regG (gs := [none]) (by kernel_rfl) fun K1 gK => ?_
  simp (maxSteps := 1000000) (disch := omega) []
  refine gK _ _ ?_
  clear gK K1
  refine DoK.seq ?_
  refine DoK.seq ?_
  refine DoK.regG (gs := [none]) (by kernel_rfl) fun K1 gK => ?_
  simp (maxSteps := 1000000) (disch := omega) []
  refine gK _ _ ?_
  clear gK K1
  refine DoK.loop (a.length) (fun i fr st' => Fs gl [(0, x), (1, y), (5, .int .i64 (i : Int))] fr ∧ i ≤ a.length ∧ i ≤ b.length ∧ Keep st st' ∧ lessL (a.drop i) (b.drop i) = lessL a b) (0) (fun fr st' => Fs gl [(0, x), (1, y)] fr ∧ Keep st st' ∧ lessL a b = decide (a.length < b.length)) ?_ ?_ ?_ ?_
  · exact ⟨by simp [Fs, hF], Nat.zero_le _, Nat.zero_le _, .refl _, rfl⟩
  · rintro i fr st' ⟨_, hi, hi2, hk, hle⟩
    omega
  · as_aux_lemma =>
    clear hF
    rintro i fr st' ⟨hF, hi, hi2, hk, hle⟩ K5 gk5 gx5 go5
    simp only [Fs] at hF
    have gr5 := fun fr st h => go5 AE.ret fr st trivial (gr fr st h)
    by_cases ha2 : i < a.length
    ·
      by_cases hb2 : i < b.length
      ·
        have hxi := (hx.keep hk).ix Tryz.underlying23 z9 (k := .i64) (a := (i : Int)) (by omega) (by omega)
        have hyi := (hy.keep hk).ix Tryz.underlying23 z9 (k := .i64) (a := (i : Int)) (by omega) (by omega)
        have hxd := (hx.keep hk).ld z9 a9 ha2
        have hyd := (hy.keep hk).ld z9 a9 hb2
        obtain ⟨e, he⟩ : ∃ e, a[i].same b[i] = e := ⟨_, rfl⟩
        rw [List.drop_eq_getElem_cons ha2, List.drop_eq_getElem_cons hb2, lessL, he] at hle
        have hk9 : Keep st { ctr := st'.ctr + 9, box := st'.box } := hk.tick 9
        have hlt : ∀ kk, vbin Tryz.prog kk .lss 9 (.str a[i]) (.str b[i]) = some (.bool (a[i].less b[i])) := fun kk => rfl
        have hxd2 := vload_ctr (P := Tryz.prog) (st := st') (c := 9 + 10) (T := 9) (a := adr 1 x i)
        have hyd2 := vload_ctr (P := Tryz.prog) (st := st') (c := 9 + 10) (T := 9) (a := adr 1 y i)
        rw [hxd] at hxd2
        rw [hyd] at hyd2
        refine DoK.seq ?_
        refine DoK.seq ?_
        refine DoK.regG (gs := [none, none, none, none, none, some (some 10, true), some (some 10, true), some (some 10, true), some (some 10, true), none]) (by kernel_rfl) fun K1 gK => ?_
        simp (maxSteps := 1000000) (disch := omega) [hF, lx, ly, ha2, hb2]
        refine gK _ _ ?_
        clear gK K1
        refine DoK.condT (by simp (maxSteps := 1000000) (disch := omega) []) ?_
        refine DoK.skip ?_
        refine DoK.seq ?_
        refine DoK.block fun K6 gn6 gx6 go6 => ?_
        have gr6 := fun fr st h => go6 AE.ret fr st trivial (gr5 fr st h)
        have gx6_0 := fun fr st h => go6 (AE.exit 0) fr st (show (0 : Nat) ≠ 1 by decide) (gx5 fr st h)
        refine DoK.seq ?_
        refine DoK.drawL (b := [0, 0, 3, 7, 0, 0, 48, 112, 255]) (by kernel_rfl) (by kernel_rfl) (by kernel_rfl) fun K1 gK => ?_
        simp (maxSteps := 1000000) (disch := omega) [hF, hxi, hyi, hxd, hyd, he]
        refine gK _ _ ?_
        clear gK K1
        cases e with
        | true =>
          refine DoK.condF (by simp (maxSteps := 1000000) (disch := omega) []) ?_
          refine DoK.skip ?_
          refine gn6 _ _ ?_
          refine DoK.regG (gs := [none, none, none]) (by kernel_rfl) fun K1 gK => ?_
          simp (maxSteps := 1000000) (disch := omega) [hF]
          refine gK _ _ ?_
          clear gK K1
          refine gk5 (i + 1) _ _ (by omega) ⟨by simp [Fs, hF], by omega, by omega, hk9, hle⟩
        | false =>
          refine DoK.condT (by simp (maxSteps := 1000000) (disch := omega) []) ?_
          refine DoK.seq ?_
          refine DoK.drawL (b := [0, 0, 3, 7, 0, 0, 48, 112, 255, 511]) (by kernel_rfl) (by kernel_rfl) (by kernel_rfl) fun K1 gK => ?_
          simp (maxSteps := 1000000) (disch := omega) [hF, hxi, hyi, hlt, hxd2, hyd2]
          refine gK _ _ ?_
          clear gK K1
          refine DoK.ret (gr6 _ _ ?_)
          simp [Ends, Tryz.f44, hF]
          refine hR _ _ ?_
          exact ⟨by rw [← hle]; rfl, (hk.tick 9).tick 10⟩
      ·
        refine DoK.seq ?_
        refine DoK.seq ?_
        refine DoK.regG (gs := [none, none, none, none, none, some (some 10, true), some (some 10, true), some (some 10, true), some (some 10, true), none]) (by kernel_rfl) fun K1 gK => ?_
        simp (maxSteps := 1000000) (disch := omega) [hF, lx, ly, ha2, hb2]
        refine gK _ _ ?_
        clear gK K1
        refine DoK.condF (by simp (maxSteps := 1000000) (disch := omega) []) ?_
        exact DoK.exit (gx5 _ _ ⟨by simp [Fs, hF], hk, by rw [← hle, List.drop_eq_nil_of_le (show b.length ≤ i by omega), decide_eq_false (by omega), List.drop_eq_getElem_cons ha2]; rfl⟩)
    ·
      refine DoK.seq ?_
      refine DoK.seq ?_
      refine DoK.regG (gs := [none, none, none, none, none, some (some 10, true), some (some 10, true), some (some 10, true), some (some 10, true), none]) (by kernel_rfl) fun K1 gK => ?_
      simp (maxSteps := 1000000) (disch := omega) [hF, lx, ha2]
      refine gK _ _ ?_
      clear gK K1
      refine DoK.condF (by simp (maxSteps := 1000000) (disch := omega) []) ?_
      exact DoK.exit (gx5 _ _ ⟨by simp [Fs, hF], hk, by (rw [← hle, show a.drop i = [] from List.drop_eq_nil_of_le (by omega)]; by_cases hb2 : i < b.length; · rw [List.drop_eq_getElem_cons hb2, decide_eq_true (by omega)]; rfl); rw [show b.drop i = [] from List.drop_eq_nil_of_le (by omega), decide_eq_false (by omega)]; rfl⟩)
  · as_aux_lemma =>
    clear hF
    rintro fr st' ⟨hF, hk, hle⟩
    simp only [Fs] at hF
    refine DoK.seq ?_
    refine DoK.regG (gs := [none, none, none, none, none, none]) (by kernel_rfl) fun K1 gK => ?_
    simp (maxSteps := 1000000) (disch := omega) [hF, lx, ly]
    refine gK _ _ ?_
    clear gK K1
    refine DoK.ret (gr _ _ ?_)
    simp [Ends, Tryz.f44, hF]
    refine hR _ _ ?_
    exact ⟨by rw [hle], hk⟩
omit [Memo] [NY] in
theorem bne4 (a b kk : Bool) : vbin Tryz.prog kk .neq 4 (.bool a) (.bool b) = some (.bool (!(a == b))) := by cases a <;> cases b <;> cases kk <;> kernel_rfl
omit [Memo] [NY] in
theorem vszs_iC : ∀ l : List Int, vszs (l.flatMap iC) = 2 * l.length + 1
  | [] => rfl
  | a :: l => by rw [List.flatMap_cons, show iC a ++ l.flatMap iC = .int .i64 a :: l.flatMap iC from rfl, vszs, vszs_iC l]; simp only [vsz, List.length_cons]; omega
omit [Memo] [NY] in
theorem vsz_kids {x : V} {l : List Int} (h : Row iC x l) : vsz x ≤ 2 * l.length + 2 := by
  cases h with
  | nils => exact Nat.le_of_ble_eq_true rfl
  | sl l ex => show vszs (l.flatMap iC) + 1 ≤ _; rw [vszs_iC]; omega
omit [Memo] [NY] in
theorem veq_fact {f : Fw} (hok : f.ok) (hs : f.small) : veq 1000000000 (.agg f.cells) (.agg f.cells) = true := veq_self _ (by
  have h1 := vsz_names hok.names
  have h2 := vsz_kids hok.kids
  have h3 := hs.names
  have h4 := hs.kids
  simp only [Fw.cells, vsz, vszs]
  omega)
omit [Memo] [NY] in
theorem vstore38 {st : St} {id : Nat} {cs : List V} {f : Fw} {e : TypeId} {fl : Bool} (hok : f.ok) (hb : st.box.get id = some (.cells cs e fl (some 0))) (hc : cs.length = 6) : vstore Tryz.prog st 38 (.ptr id 0) (.agg f.cells) = some (st.put id (.cells f.cells e fl (some 0))) :=
  store_all z38 hb hc f.len6 (Fw.ones hok)
set_option maxRecDepth 100000 in
theorem rSame (gl : Gl) (st : St) (x y : V) (a b : List Fw) (hx : Row Fw.cells x a) (hy : Row Fw.cells y b) (hok : ∀ f ∈ a, f.ok) (hok' : ∀ f ∈ b, f.ok) (hs : ∀ f ∈ a, f.small) (hs' : ∀ f ∈ b, f.small) (hl : a.length < 1000000) :
    Says Tryz.prog gl 20 [x, y] st (fun v st' => v = .bool (all2 sameF a b) ∧ Keep st st') := by
  refine saysK (NY.no _ rfl rfl rfl _ _) Tryz.func20 rfl (by kernel_rfl) fun R hR K gr gn => ?_
  generalize hfr : initFr gl [x, y] = fr
  have hF : Fs gl [(0, x), (1, y)] fr := by subst hfr; simp [Fs]
  simp only [Fs] at hF
  clear hfr
  have lx := hx.len Tryz.underlying22
  have ly := hy.len Tryz.underlying22
  have hxi : ∀ {k : IntKind} {n : Int}, 0 ≤ n → n < (a.length : Int) → vindexAddr Tryz.prog 22 x (.int k n) = some (.cp (radr Fw.cells a n.toNat)) := fun h0 h1 => hx.ix (fun f _ => f.len6) Tryz.underlying22 z38 h0 h1
  have hyi : ∀ {k : IntKind} {n : Int}, 0 ≤ n → n < (b.length : Int) → vindexAddr Tryz.prog 22 y (.int k n) = some (.cp (radr Fw.cells b n.toNat)) := fun h0 h1 => hy.ix (fun f _ => f.len6) Tryz.underlying22 z38 h0 h1
  refine DoK.seq ?_
  refine DoK.regG (gs := [none]) (by kernel_rfl) fun K1 gK => ?_
  simp (maxSteps := 1000000) (disch := omega) []
  refine gK _ _ ?_
  clear gK K1
  refine DoK.seq ?_
  refine DoK.seq ?_
  refine DoK.regG (gs := [none, none, none, none, none]) (by kernel_rfl) fun K1 gK => ?_
  simp (maxSteps := 1000000) (disch := omega) [hF, lx, ly]
  refine gK _ _ ?_
  clear gK K1
  by_cases hlen : a.length = b.length
  ·
    refine DoK.condF (by simp (maxSteps := 1000000) (disch := omega) [hlen]) ?_
    refine DoK.skip ?_
    refine DoK.seq ?_
    refine DoK.seq ?_
    refine DoK.regG (gs := [none]) (by kernel_rfl) fun K1 gK => ?_
    simp (maxSteps := 1000000) (disch := omega) [hlen]
    refine gK _ _ ?_
    clear gK K1
    refine DoK.loop (a.length) (fun i fr st' => Fs gl [(0, x), (1, y), (5, .int .i64 (i : Int))] fr ∧ i ≤ a.length ∧ Keep st st' ∧ Upto2 sameF a b i) (0) (fun fr st' => Fs gl [] fr ∧ Keep st st' ∧ all2 sameF a b = true) ?_ ?_ ?_ ?_
    · exact ⟨by simp [Fs, hF], Nat.zero_le _, .refl _, upto2_zero _ _ _⟩
    · rintro i fr st' ⟨_, hi, hk, hup⟩
      omega
    · as_aux_lemma =>
      clear hF
      rintro i fr st' ⟨hF, hi, hk, hup⟩ K7 gk7 gx7 go7
      simp only [Fs] at hF
      have gr7 := fun fr st h => go7 AE.ret fr st trivial (gr fr st h)
      refine DoK.seq ?_
      refine DoK.seq ?_
      refine DoK.regG (gs := [none, none, none, none]) (by kernel_rfl) fun K1 gK => ?_
      simp (maxSteps := 1000000) (disch := omega) [hF, lx]
      refine gK _ _ ?_
      clear gK K1
      by_cases hlt : i < a.length
      ·
        refine DoK.condT (by simp (maxSteps := 1000000) (disch := omega) [hlt]) ?_
        have hlt' : i < b.length := by omega
        have hfa := hok _ (List.getElem_mem hlt)
        have hfb := hok' _ (List.getElem_mem hlt')
        have hsa := hs _ (List.getElem_mem hlt)
        have hsb := hs' _ (List.getElem_mem hlt')
        have vqa := veq_fact hfa hsa
        have vqb := veq_fact hfb hsb
        obtain ⟨id1, hid1⟩ : ∃ n, n = st'.ctr + 8 := ⟨_, rfl⟩
        have hid2 : st'.ctr + 9 = id1 + 1 := by omega
        obtain ⟨s0, hs0⟩ : ∃ s : St, s = { ctr := st'.ctr + 12, box := (st'.box.put id1 (.cells [.bool false, .int .u8 0, .nils, .nils, .int .i64 0, .int .i64 0] 38 true (some 0))).put (id1 + 1) (.cells [.bool false, .int .u8 0, .nils, .nils, .int .i64 0, .int .i64 0] 38 true (some 0)) } := ⟨_, rfl⟩
        have k0 : Keep st s0 := by rw [hs0]; exact Keep.put (Keep.put (hk.tick 12) (by have := hk.ctr; omega) _) (by have := hk.ctr; omega) _
        have c0 : s0.ctr = st'.ctr + 12 := by rw [hs0]
        have g1 : s0.box.get id1 = some (.cells [.bool false, .int .u8 0, .nils, .nils, .int .i64 0, .int .i64 0] 38 true (some 0)) := by rw [hs0]; simp [Tr.get_put]
        have g2 : s0.box.get (id1 + 1) = some (.cells [.bool false, .int .u8 0, .nils, .nils, .int .i64 0, .int .i64 0] 38 true (some 0)) := by rw [hs0]; simp [Tr.get_put]
        have w1 := vstore38 hfa g1 rfl
        obtain ⟨s1, hs1⟩ : ∃ s : St, s = s0.put id1 (.cells a[i].cells 38 true (some 0)) := ⟨_, rfl⟩
        have g3 : s1.box.get (id1 + 1) = some (.cells [.bool false, .int .u8 0, .nils, .nils, .int .i64 0, .int .i64 0] 38 true (some 0)) := by rw [hs1, put_get, if_neg (by omega)]; exact g2
        have g4 : s1.box.get id1 = some (.cells a[i].cells 38 true (some 0)) := by rw [hs1, put_get, if_pos rfl]
        have k1 : Keep st s1 := by rw [hs1]; exact k0.put' (by have := hk.ctr; omega) _
        have c1 : s1.ctr = st'.ctr + 12 := by rw [hs1, put_ctr, c0]
        have w2 := vstore38 hfb g3 rfl
        obtain ⟨s2, hs2⟩ : ∃ s : St, s = s1.put (id1 + 1) (.cells b[i].cells 38 true (some 0)) := ⟨_, rfl⟩
        have b2 : s2.box.get (id1 + 1) = some (.cells b[i].cells 38 true (some 0)) := by rw [hs2, put_get, if_pos rfl]
        have b1 : s2.box.get id1 = some (.cells a[i].cells 38 true (some 0)) := by rw [hs2, put_get, if_neg (by omega)]; exact g4
        have k2 : Keep st s2 := by rw [hs2]; exact k1.put' (by have := hk.ctr; omega) _
        have c2 : id1 + 1 < s2.ctr := by rw [hs2, put_ctr, c1]; omega
        rw [← hs1] at w1
        rw [← hs2] at w2
        have hid1' := hid1.symm
        have hs0' := hs0.symm
        refine DoK.skip ?_
        refine DoK.seq ?_
        refine DoK.block fun K8 gn8 gx8 go8 => ?_
        have gr8 := fun fr st h => go8 AE.ret fr st trivial (gr7 fr st h)
        have gx8_0 := fun fr st h => go8 (AE.exit 0) fr st (show (0 : Nat) ≠ 1 by decide) (gx7 fr st h)
        refine DoK.seq ?_
        refine DoK.drawR (b := [0, 0, 3, 7, 0, 0, 48, 112, 0, 0, 783, 2047]) (rs := [(0, 4), (8, 3), (4, 4), (11, 1)]) (by kernel_rfl) (by kernel_rfl) (by kernel_rfl) (by kernel_rfl) fun K1 gK => ?_
        simp (maxSteps := 1000000) (disch := omega) [hF, hxi, hyi, hlt, flp, vqa, vqb, hid1', hid2, hs0', w1, w2, zs38, valloc, V.cells, mkRef, oneC]
        refine gK _ _ ?_
        clear gK K1
        have l0 := vload_of (P := Tryz.prog) (off := 0) a4 z4 b1 rfl
        have l1 := vload_of (P := Tryz.prog) (off := 1) a5 z5 b1 rfl
        have l2 := vload_of (P := Tryz.prog) (off := 2) a23 z23 b1 rfl
        have l4 := vload_of (P := Tryz.prog) (off := 4) a3 z3 b1 rfl
        have l5 := vload_of (P := Tryz.prog) (off := 5) a3 z3 b1 rfl
        have m0 := vload_of (P := Tryz.prog) (off := 0) a4 z4 b2 rfl
        have m1 := vload_of (P := Tryz.prog) (off := 1) a5 z5 b2 rfl
        have m2 := vload_of (P := Tryz.prog) (off := 2) a23 z23 b2 rfl
        have m4 := vload_of (P := Tryz.prog) (off := 4) a3 z3 b2 rfl
        have m5 := vload_of (P := Tryz.prog) (off := 5) a3 z3 b2 rfl
        obtain ⟨v, s3, hcs, rfl, hk3⟩ := Says.use (sameS_ok gl s2 a[i].nv b[i].nv a[i].names b[i].names (hfa.names.vw _) (hfb.names.vw _) (by have := hsa.names; omega)) (by kernel_rfl)
        have b3 : s3.box.get id1 = some (.cells a[i].cells 38 true (some 0)) := by rw [hk3.box _ (by omega)]; exact b1
        have b4 : s3.box.get (id1 + 1) = some (.cells b[i].cells 38 true (some 0)) := by rw [hk3.box _ c2]; exact b2
        have l3 := vload_of (P := Tryz.prog) (off := 3) a36 z36 b3 rfl
        have m3 := vload_of (P := Tryz.prog) (off := 3) a36 z36 b4 rfl
        have lka := hfa.kids.len Tryz.underlying36
        have lkb := hfb.kids.len Tryz.underlying36
        obtain ⟨N, hN⟩ : ∃ B, (a[i].known == b[i].known) = B := ⟨_, rfl⟩
        obtain ⟨D, hD⟩ : ∃ B, decide (a[i].kind = b[i].kind) = B := ⟨_, rfl⟩
        obtain ⟨E, hE⟩ : ∃ B, decide (a[i].rest = b[i].rest) = B := ⟨_, rfl⟩
        obtain ⟨G, hG⟩ : ∃ B, decide (a[i].beside = b[i].beside) = B := ⟨_, rfl⟩
        obtain ⟨A, hA⟩ : ∃ B, all2 S.same a[i].names b[i].names = B := ⟨_, rfl⟩
        obtain ⟨L, hL⟩ : ∃ B, decide (a[i].kids.length = b[i].kids.length) = B := ⟨_, rfl⟩
        have e0 : ∀ kk, vbin Tryz.prog kk .neq 4 (.bool a[i].known) (.bool b[i].known) = some (.bool (!N)) := fun kk => by rw [bne4, hN]
        have e1 : ∀ kk, vbin Tryz.prog kk .neq 5 (.int .u8 (a[i].kind : Int)) (.int .u8 (b[i].kind : Int)) = some (.bool (!D)) := fun kk => by rw [nn_neq, hD]
        have e4 : ∀ kk, vbin Tryz.prog kk .neq 3 (.int .i64 a[i].rest) (.int .i64 b[i].rest) = some (.bool (!E)) := fun kk => by rw [vbin_neq, hE]
        have e5 : ∀ kk, vbin Tryz.prog kk .neq 3 (.int .i64 a[i].beside) (.int .i64 b[i].beside) = some (.bool (!G)) := fun kk => by rw [vbin_neq, hG]
        have e3 : ∀ kk, vbin Tryz.prog kk .neq 3 (.int .i64 (a[i].kids.length : Int)) (.int .i64 (b[i].kids.length : Int)) = some (.bool (!L)) := fun kk => by rw [nn_neq, hL]
        rw [hA] at hcs
        refine DoK.seq ?_
        refine DoK.seq ?_
        refine DoK.regG (gs := [none, none, none, none, none, none, some (some 33, false), some (some 33, false), some (some 33, false), some (some 33, false), some (some 33, false), none, none, some (some 40, false), some (some 40, false), some (some 40, false), some (some 40, false), some (some 40, false), none, none, some (some 47, false), some (some 47, false), some (some 47, false), some (some 47, false), some (some 47, false), none, none, some (some 54, false), some (some 54, false), some (some 54, false), some (some 54, false), some (some 54, false), some (some 54, false), none, none, some (some 62, false), some (some 62, false), some (some 62, false), some (some 62, false), some (some 62, false), some (some 62, false), some (some 62, false), none]) (by kernel_rfl) fun K1 gK => ?_
        refine OkG.cutK 6 (fun fr st' => Fs gl [(0, x), (1, y), (5, .int .i64 (i : Int)), (6, .ptr id1 0), (7, .ptr (id1 + 1) 0), (33, .bool (!N))] fr ∧ s2 = st') (by kernel_rfl) ?_ ?_
        · as_aux_lemma =>
          intro Kc gKc
          simp only [List.take]
          simp (maxSteps := 1000000) (disch := omega) [l0, m0, e0]
          exact gKc _ _ ⟨by simp [Fs, hF], rfl⟩
        · as_aux_lemma =>
          clear hF
          rintro fr st' ⟨hF, rfl⟩
          simp only [Fs] at hF
          simp only [List.drop]
          refine OkG.cutK 7 (fun fr st' => Fs gl [(0, x), (1, y), (5, .int .i64 (i : Int)), (6, .ptr id1 0), (7, .ptr (id1 + 1) 0), (40, .bool (!(N && D)))] fr ∧ s2 = st') (by kernel_rfl) ?_ ?_
          · as_aux_lemma =>
            intro Kc gKc
            simp only [List.take]
            cases N with
            | true =>
              simp (maxSteps := 1000000) (disch := omega) [hF, l1, m1, e1]
              exact gKc _ _ ⟨by simp [Fs, hF], rfl⟩
            | false =>
              simp (maxSteps := 1000000) (disch := omega) [hF]
              exact gKc _ _ ⟨by simp [Fs, hF], rfl⟩
          · as_aux_lemma =>
            clear hF
            rintro fr st' ⟨hF, rfl⟩
            simp only [Fs] at hF
            simp only [List.drop]
            obtain ⟨B1, hB1⟩ : ∃ B, (N && D) = B := ⟨_, rfl⟩
            rw [hB1] at hF
            refine OkG.cutK 7 (fun fr st' => Fs gl [(0, x), (1, y), (5, .int .i64 (i : Int)), (6, .ptr id1 0), (7, .ptr (id1 + 1) 0), (47, .bool (!(B1 && E)))] fr ∧ s2 = st') (by kernel_rfl) ?_ ?_
            · as_aux_lemma =>
              intro Kc gKc
              simp only [List.take]
              cases B1 with
              | true =>
                simp (maxSteps := 1000000) (disch := omega) [hF, l4, m4, e4]
                exact gKc _ _ ⟨by simp [Fs, hF], rfl⟩
              | false =>
                simp (maxSteps := 1000000) (disch := omega) [hF]
                exact gKc _ _ ⟨by simp [Fs, hF], rfl⟩
            · as_aux_lemma =>
              clear hF
              rintro fr st' ⟨hF, rfl⟩
              simp only [Fs] at hF
              simp only [List.drop]
              obtain ⟨B2, hB2⟩ : ∃ B, (B1 && E) = B := ⟨_, rfl⟩
              rw [hB2] at hF
              refine OkG.cutK 7 (fun fr st' => Fs gl [(0, x), (1, y), (5, .int .i64 (i : Int)), (6, .ptr id1 0), (7, .ptr (id1 + 1) 0), (54, .bool (!(B2 && G)))] fr ∧ s2 = st') (by kernel_rfl) ?_ ?_
              · as_aux_lemma =>
                intro Kc gKc
                simp only [List.take]
                cases B2 with
                | true =>
                  simp (maxSteps := 1000000) (disch := omega) [hF, l5, m5, e5]
                  exact gKc _ _ ⟨by simp [Fs, hF], rfl⟩
                | false =>
                  simp (maxSteps := 1000000) (disch := omega) [hF]
                  exact gKc _ _ ⟨by simp [Fs, hF], rfl⟩
              · as_aux_lemma =>
                clear hF
                rintro fr st' ⟨hF, rfl⟩
                simp only [Fs] at hF
                simp only [List.drop]
                obtain ⟨B3, hB3⟩ : ∃ B, (B2 && G) = B := ⟨_, rfl⟩
                rw [hB3] at hF
                refine OkG.cutK 8 (fun fr st' => Fs gl [(0, x), (1, y), (5, .int .i64 (i : Int)), (6, .ptr id1 0), (7, .ptr (id1 + 1) 0), (62, .bool (!(B3 && A)))] fr ∧ Keep s2 st' ∧ st'.box.get id1 = some (.cells a[i].cells 38 true (some 0)) ∧ st'.box.get (id1 + 1) = some (.cells b[i].cells 38 true (some 0))) (by kernel_rfl) ?_ ?_
                · as_aux_lemma =>
                  intro Kc gKc
                  simp only [List.take]
                  cases B3 with
                  | true =>
                    simp (maxSteps := 1000000) (disch := omega) [hF, l2, m2, hcs]
                    exact gKc _ _ ⟨by simp [Fs, hF], hk3, b3, b4⟩
                  | false =>
                    simp (maxSteps := 1000000) (disch := omega) [hF]
                    exact gKc _ _ ⟨by simp [Fs, hF], .refl _, b1, b2⟩
                · as_aux_lemma =>
                  clear hF
                  rintro fr st' ⟨hF, hk4, b5, b6⟩
                  simp only [Fs] at hF
                  simp only [List.drop]
                  obtain ⟨B4, hB4⟩ : ∃ B, (B3 && A) = B := ⟨_, rfl⟩
                  rw [hB4] at hF
                  have n3 := vload_of (P := Tryz.prog) (off := 3) a36 z36 b5 rfl
                  have p3 := vload_of (P := Tryz.prog) (off := 3) a36 z36 b6 rfl
                  have hsame : sameF a[i] b[i] = (B4 && all2 eqI a[i].kids b[i].kids) := by rw [← hB4, ← hB3, ← hB2, ← hB1, ← hN, ← hD, ← hE, ← hG, ← hA]; rfl
                  cases B4 with
                  | true =>
                    simp (maxSteps := 1000000) (disch := omega) [hF, lka, lkb, e3, n3, p3]
                    refine gK _ _ ?_
                    clear gK K1
                    cases L with
                    | true =>
                      refine DoK.condF (by simp (maxSteps := 1000000) (disch := omega) []) ?_
                      have hkl : a[i].kids.length = b[i].kids.length := of_decide_eq_true hL
                      refine DoK.skip ?_
                      refine DoK.seq ?_
                      refine DoK.regG (gs := [none]) (by kernel_rfl) fun K1 gK => ?_
                      simp (maxSteps := 1000000) (disch := omega) []
                      refine gK _ _ ?_
                      clear gK K1
                      have hka60 := hsa.kids
                      refine DoK.loop (a[i].kids.length) (fun k fr st' => Fs gl [(0, x), (1, y), (5, .int .i64 (i : Int)), (6, .ptr id1 0), (7, .ptr (id1 + 1) 0), (8, .int .i64 (k : Int))] fr ∧ k ≤ a[i].kids.length ∧ Keep st st' ∧ (st'.box.get id1 = some (.cells a[i].cells 38 true (some 0)) ∧ st'.box.get (id1 + 1) = some (.cells b[i].cells 38 true (some 0))) ∧ Upto2 eqI a[i].kids b[i].kids k) (0) (fun fr st' => Fs gl [(0, x), (1, y), (5, .int .i64 (i : Int))] fr ∧ Keep st st' ∧ all2 eqI a[i].kids b[i].kids = true) ?_ ?_ ?_ ?_
                      · exact ⟨by simp [Fs, hF], Nat.zero_le _, k2.trans hk4, ⟨b5, b6⟩, upto2_zero _ _ _⟩
                      · rintro k fr st' ⟨_, hki, hkk, ⟨b7, b8⟩, huk⟩
                        omega
                      · as_aux_lemma =>
                        clear hF
                        rintro k fr st' ⟨hF, hki, hkk, ⟨b7, b8⟩, huk⟩ K9 gk9 gx9 go9
                        simp only [Fs] at hF
                        have gr9 := fun fr st h => go9 AE.ret fr st trivial (gr8 fr st h)
                        have gx9_0 := fun fr st h => go9 (AE.exit 0) fr st (show (0 : Nat) ≠ 2 by decide) (gx8_0 fr st h)
                        have gx9_1 := fun fr st h => go9 (AE.exit 1) fr st (show (1 : Nat) ≠ 2 by decide) (gx8 fr st h)
                        have q3 := vload_of (P := Tryz.prog) (off := 3) a36 z36 b7 rfl
                        have r3 := vload_of (P := Tryz.prog) (off := 3) a36 z36 b8 rfl
                        refine DoK.seq ?_
                        refine DoK.seq ?_
                        refine DoK.regG (gs := [none, none, none, none, none]) (by kernel_rfl) fun K1 gK => ?_
                        simp (maxSteps := 1000000) (disch := omega) [hF, lka, q3]
                        refine gK _ _ ?_
                        clear gK K1
                        by_cases hkt : k < a[i].kids.length
                        ·
                          refine DoK.condT (by simp (maxSteps := 1000000) (disch := omega) [hkt]) ?_
                          have hkt' : k < b[i].kids.length := by omega
                          have hia := hfa.kids.ix (z := 1) (fun _ _ => rfl) Tryz.underlying36 z3 (k := .i64) (a := (k : Int)) (by omega) (by omega)
                          have hib := hfb.kids.ix (z := 1) (fun _ _ => rfl) Tryz.underlying36 z3 (k := .i64) (a := (k : Int)) (by omega) (by omega)
                          have hda := fun st => ilp (st := st) hkt
                          have hdb := fun st => ilp (st := st) hkt'
                          have vka : veq 1000000000 a[i].kv a[i].kv = true := veq_self _ (by have := vsz_kids hfa.kids; have := hsa.kids; omega)
                          have vkb : veq 1000000000 b[i].kv b[i].kv = true := veq_self _ (by have := vsz_kids hfb.kids; have := hsb.kids; omega)
                          obtain ⟨B, hB⟩ : ∃ B, eqI a[i].kids[k] b[i].kids[k] = B := ⟨_, rfl⟩
                          have eB : ∀ kk, vbin Tryz.prog kk .neq 3 (.int .i64 a[i].kids[k]) (.int .i64 b[i].kids[k]) = some (.bool (!B)) := fun kk => by rw [vbin_neq, ← hB]; rfl
                          have hkn : Keep st { ctr := st'.ctr + 11, box := st'.box } := hkk.tick 11
                          refine DoK.skip ?_
                          refine DoK.seq ?_
                          refine DoK.block fun K10 gn10 gx10 go10 => ?_
                          have gr10 := fun fr st h => go10 AE.ret fr st trivial (gr9 fr st h)
                          have gx10_0 := fun fr st h => go10 (AE.exit 0) fr st (show (0 : Nat) ≠ 3 by decide) (gx9_0 fr st h)
                          have gx10_1 := fun fr st h => go10 (AE.exit 1) fr st (show (1 : Nat) ≠ 3 by decide) (gx9_1 fr st h)
                          have gx10_2 := fun fr st h => go10 (AE.exit 2) fr st (show (2 : Nat) ≠ 3 by decide) (gx9 fr st h)
                          refine DoK.seq ?_
                          refine DoK.drawL (b := [0, 1, 0, 7, 15, 0, 32, 0, 224, 480, 1023]) (by kernel_rfl) (by kernel_rfl) (by kernel_rfl) fun K1 gK => ?_
                          simp (maxSteps := 1000000) (disch := omega) [hF, q3, r3, hkt, hia, hib, hda, hdb, vka, vkb, eB]
                          refine gK _ _ ?_
                          clear gK K1
                          cases B with
                          | true =>
                            refine DoK.condF (by simp (maxSteps := 1000000) (disch := omega) []) ?_
                            refine DoK.skip ?_
                            refine gn10 _ _ ?_
                            refine DoK.regG (gs := [none, none, none]) (by kernel_rfl) fun K1 gK => ?_
                            simp (maxSteps := 1000000) (disch := omega) [hF]
                            refine gK _ _ ?_
                            clear gK K1
                            refine gk9 (k + 1) _ _ (by omega) ⟨by simp [Fs, hF], by omega, hkn, ⟨b7, b8⟩, upto2_step huk hkt hkt' hB⟩
                          | false =>
                            refine DoK.condT (by simp (maxSteps := 1000000) (disch := omega) []) ?_
                            refine DoK.seq ?_
                            refine DoK.regG (gs := [none]) (by kernel_rfl) fun K1 gK => ?_
                            simp (maxSteps := 1000000) (disch := omega) []
                            refine gK _ _ ?_
                            clear gK K1
                            refine DoK.ret (gr10 _ _ ?_)
                            simp [Ends, Tryz.f20, hF]
                            refine hR _ _ ?_
                            exact ⟨by rw [upto2_no hlt hlt' (by rw [hsame, upto2_no hkt hkt' hB]; rfl)], hkn⟩
                        ·
                          refine DoK.condF (by simp (maxSteps := 1000000) (disch := omega) [hkt]) ?_
                          exact DoK.exit (gx9 _ _ ⟨by simp [Fs, hF, hkt], hkk, upto2_end hkl huk (by omega)⟩)
                      · as_aux_lemma =>
                        clear hF
                        rintro fr st' ⟨hF, hkk, hak⟩
                        simp only [Fs] at hF
                        refine gn8 _ _ ?_
                        refine DoK.regG (gs := [none, none, none]) (by kernel_rfl) fun K1 gK => ?_
                        simp (maxSteps := 1000000) (disch := omega) [hF]
                        refine gK _ _ ?_
                        clear gK K1
                        refine gk7 (i + 1) _ _ (by omega) ⟨by simp [Fs, hF], by omega, hkk, upto2_step hup hlt hlt' (by rw [hsame, hak]; rfl)⟩
                    | false =>
                      refine DoK.condT (by simp (maxSteps := 1000000) (disch := omega) []) ?_
                      refine DoK.seq ?_
                      refine DoK.regG (gs := [none]) (by kernel_rfl) fun K1 gK => ?_
                      simp (maxSteps := 1000000) (disch := omega) []
                      refine gK _ _ ?_
                      clear gK K1
                      refine DoK.ret (gr8 _ _ ?_)
                      simp [Ends, Tryz.f20, hF]
                      refine hR _ _ ?_
                      exact ⟨by rw [upto2_no hlt hlt' (by rw [hsame, all2_len (of_decide_eq_false hL)]; rfl)], k2.trans hk4⟩
                  | false =>
                    simp (maxSteps := 1000000) (disch := omega) [hF]
                    refine gK _ _ ?_
                    clear gK K1
                    refine DoK.condT (by simp (maxSteps := 1000000) (disch := omega) []) ?_
                    refine DoK.seq ?_
                    refine DoK.regG (gs := [none]) (by kernel_rfl) fun K1 gK => ?_
                    simp (maxSteps := 1000000) (disch := omega) []
                    refine gK _ _ ?_
                    clear gK K1
                    refine DoK.ret (gr8 _ _ ?_)
                    simp [Ends, Tryz.f20, hF]
                    refine hR _ _ ?_
                    exact ⟨by rw [upto2_no hlt hlt' (by rw [hsame]; rfl)], k2.trans hk4⟩
      ·
        refine DoK.condF (by simp (maxSteps := 1000000) (disch := omega) [hlt]) ?_
        exact DoK.exit (gx7 _ _ ⟨by simp [Fs, hF, hlt], hk, upto2_end hlen hup (by omega)⟩)
    · as_aux_lemma =>
      clear hF
      rintro fr st' ⟨hF, hk, hall⟩
      simp only [Fs] at hF
      refine DoK.seq ?_
      refine DoK.regG (gs := [none]) (by kernel_rfl) fun K1 gK => ?_
      simp (maxSteps := 1000000) (disch := omega) []
      refine gK _ _ ?_
      clear gK K1
      refine DoK.ret (gr _ _ ?_)
      simp [Ends, Tryz.f20, hF]
      refine hR _ _ ?_
      exact ⟨by rw [hall], hk⟩
  ·
    refine DoK.condT (by simp (maxSteps := 1000000) (disch := omega) [hlen]) ?_
    refine DoK.seq ?_
    refine DoK.regG (gs := [none]) (by kernel_rfl) fun K1 gK => ?_
    simp (maxSteps := 1000000) (disch := omega) [hlen]
    refine gK _ _ ?_
    clear gK K1
    refine DoK.ret (gr _ _ ?_)
    simp [Ends, Tryz.f20, hF]
    refine hR _ _ ?_
    exact ⟨by rw [all2_len hlen], .refl _⟩
end Go.Vm
