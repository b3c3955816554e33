/- Rows that are the same, as the program asks. -/
import Derived.Test.YtlmmgpmioaecnaaGreatDoorSz04
import Derived.Test.YtlmmgpmioaecnaaGreatDoorSz00
namespace Go.Vm
open Go Go.Proofs Go.Sy
set_option maxRecDepth 100000
attribute [local simp] Oks J8 Jj Jo vop Js Jy ev evs toV andThen inBlock Jn Fr.dsTo Fr.glTo Fr.toNone Jk Jl Jm J6 Jc Jz Jw V.undef JU J9 Qk
def Jpe {α : Type} (p : α → α → Bool) : List α → List α → Bool
 | [], [] => true
 | a :: l, b :: m => p a b && Jpe p l m
 | _, _ => false
def Jpf (w u : Ww) : Bool := decide (w.l.map Wp.key = u.l.map Wp.key)
mutual
def Jpg : Cw → Cw → Bool
 | .mk k _ nm _ ws _ kids, .mk k' _ nm' _ ws' _ kids' => decide (k = k') && nm.same nm' && Jpe Jpf ws ws' && Jmi kids kids'
def Jmi : List Cw → List Cw → Bool
 | [], [] => true
 | c :: r, c' :: r' => Jpg c c' && Jmi r r'
 | [], _ :: _ => false
 | _ :: _, [] => false
end
theorem Jjc (st : St) (c : Cw) : st.ctr < (Jcd st c).ctr := Nat.lt_succ_self _
variable [Memo] [NY]
end Go.Vm
namespace Go.Vm
open Go
def Q0 (P : Program) (ih : CallF) (b : List Nat) (c0 : Nat) : List (Option (Option Nat × Bool)) → List Oper → Nat → Drw → Option Drw
 | g :: gs, o :: r, i, d => match QG d.fr g with
  | false => Q0 P ih b c0 gs r (i + 1) { fr := Fr.to d.fr o.dst .undef, st := d.st, snaps := (match Js P o.op with | .e => (i, d.st) :: d.snaps | _ => d.snaps) }
  | true =>
   match Js P o.op with
   | .p => match Jy P d.fr d.st o.op with
    | some v => Q0 P ih b c0 gs r (i + 1) { d with fr := Fr.to d.fr o.dst v }
    | none => none
   | .r => match d.snaps with
    | (_, s0) :: _ => match Jy P d.fr s0 o.op with
     | some v => match JO P d.fr o.op v (b.getD i 0) d.snaps with
      | true => Q0 P ih b c0 gs r (i + 1) { d with fr := Fr.to d.fr o.dst v }
      | false => none
     | none => none
    | [] => none
   | .a => match Jv P d.fr o.op with
    | some (cs, e, n) => match cs.all Ju with
     | true => Q0 P ih b c0 gs r (i + 1) { fr := Fr.to d.fr o.dst (JM (c0 + i) n), st := { d.st with box := d.st.box.put (c0 + i) (.cells cs e true (some 0)) }, snaps := d.snaps }
     | false => none
    | none => none
   | .e => match J6 P ih d.fr d.st o.op with
    | .val v st' => Q0 P ih b c0 gs r (i + 1) { fr := Fr.to d.fr o.dst v, st := st', snaps := (i, st') :: d.snaps }
    | _ => none
 | _, _, _, d => some d
theorem JgH {P : Program} {ih : CallF} {ops : Array Oper} {b : List Nat} {c0 : Nat} : ∀ (l : List Oper) (i : Nat) (d : Drw), Q0 P ih b c0 (l.map (JbX ops)) l i d = JT P ih ops b c0 l i d
 | [], i, d => rfl
 | o :: r, i, d => by
  have ih' := fun j d => JgH (P := P) (ih := ih) (ops := ops) (b := b) (c0 := c0) r j d
  simp only [List.map_cons, Q0, JT, JhL, ih']
  rfl
theorem Jow {P : Program} {ih : CallF} {b : List Nat} {c0 : Nat} (n : Nat) : ∀ (gs : List (Option (Option Nat × Bool))) (l : List Oper) (i : Nat) (d : Drw), gs.length = l.length → Q0 P ih b c0 gs l i d =
    match Q0 P ih b c0 (gs.take n) (l.take n) i d with
    | some d1 => Q0 P ih b c0 (gs.drop n) (l.drop n) (i + n) d1
    | none => none := by
  induction n with
  | zero => intro gs l i d _; simp [Q0]
  | succ n ihn =>
    intro gs l i d h
    cases gs with
    | nil => cases l with
      | nil => simp [Q0]
      | cons o r => simp at h
    | cons g gs => cases l with
     | nil => simp at h
     | cons o r =>
      have ih' := fun d => ihn gs r (i + 1) d (by simpa using h)
      rw [show i + 1 + n = i + (n + 1) by omega] at ih'
      simp only [List.take_succ_cons, List.drop_succ_cons, Q0]
      cases QG d.fr g with
      | false => exact ih' _
      | true =>
        simp only
        cases Js P o.op with
        | p =>
          simp only
          cases Jy P d.fr d.st o.op with
          | none => rfl
          | some v => exact ih' _
        | r =>
          simp only
          cases d.snaps with
          | nil => rfl
          | cons s sn =>
            simp only
            cases Jy P d.fr s.2 o.op with
            | none => rfl
            | some v =>
              simp only
              cases JO P d.fr o.op v (b.getD i 0) (s :: sn) with
              | true => exact ih' _
              | false => rfl
        | a =>
          simp only
          cases Jv P d.fr o.op with
          | none => rfl
          | some v =>
            simp only
            cases v.1.all Ju with
            | true => exact ih' _
            | false => rfl
        | e =>
          simp only
          cases J6 P ih d.fr d.st o.op with
          | val v st' => exact ih' _
          | panic v st' => rfl
          | fail w => rfl
def OkS [Memo] (P : Program) (b : List Nat) (c0 : Nat) (gs : List (Option (Option Nat × Bool))) (l : List Oper) (i : Nat) (fr : Fr) (st : St) (snaps : List (Nat × St)) (K : Fr → St → List (Nat × St) → Prop) : Prop :=
 match Q0 P (ihCall (W P)) b c0 gs l i { fr := fr, st := st, snaps := snaps } with
 | some d => K d.fr d.st d.snaps
 | none => False
theorem Kd_ [Memo] {P : Program} {rd : Option Nat} {fr : Fr} {st : St} {Q : AE → Fr → St → Prop} {id : Nat} {ops : Array Oper} {k : List Code} {b : List Nat} {gs : List (Option (Option Nat × Bool))} (hb : Qr ops = b) (hl : JcK P ops b = List.range' 0 ops.toList.length) (hp : Ja7 P ops b (List.range' 0 ops.toList.length) = true) (hg : ops.toList.map (JbX ops) = gs)
  (h : ∀ K : Fr → St → Prop, (∀ fr' st', DoK P rd k fr' st' Q → K fr' st') →
   OkS P b st.ctr gs ops.toList 0 fr { ctr := st.ctr + ops.size, box := st.box } [(ops.size, { ctr := st.ctr + ops.size, box := st.box })] fun fr st _ => K fr st) : DoK P rd (.region id ops true :: k) fr st Q := by
 refine Kg_ hb hl hp fun K hK => ?_
 have h1 := h K hK
 unfold OkS at h1
 unfold OkD
 rw [← JgH, hg]
 exact h1
theorem Kh_ [Memo] {P : Program} {rd : Option Nat} {fr : Fr} {st : St} {Q : AE → Fr → St → Prop} {id : Nat} {ops : Array Oper} {k : List Code} {b : List Nat} {gs : List (Option (Option Nat × Bool))} (h : ∀ K : Fr → St → Prop, (∀ fr' st', DoK P rd k fr' st' Q → K fr' st') →
   OkS P b st.ctr gs ops.toList 0 fr { ctr := st.ctr + ops.size, box := st.box } [(ops.size, { ctr := st.ctr + ops.size, box := st.box })] fun fr st _ => K fr st) (hb : Qr ops = b := by kernel_rfl) (hl : JcK P ops b = List.range' 0 ops.toList.length := by kernel_rfl) (hp : Ja7 P ops b (List.range' 0 ops.toList.length) = true := by kernel_rfl) (hg : ops.toList.map (JbX ops) = gs := by kernel_rfl) : DoK P rd (.region id ops true :: k) fr st Q := Kd_ hb hl hp hg h
end Go.Vm
namespace Go.Vm
open Go
abbrev GOp := Option (Option Nat × Bool)
def Jbg (P : Program) (ih : CallF) (b : List Nat) (c0 : Nat) : List (Nat × GOp × Oper) → Drw → Option Drw
 | [], d => some d
 | (i, g, o) :: r, d => match QG d.fr g with
  | false => Jbg P ih b c0 r { fr := Fr.to d.fr o.dst .undef, st := d.st, snaps := (match Js P o.op with | .e => (i, d.st) :: d.snaps | _ => d.snaps) }
  | true =>
   match Js P o.op with
   | .p => match Jy P d.fr d.st o.op with
    | some v => Jbg P ih b c0 r { d with fr := Fr.to d.fr o.dst v }
    | none => none
   | .r => match d.snaps with
    | (_, s0) :: _ => match Jy P d.fr s0 o.op with
     | some v => match JO P d.fr o.op v (b.getD i 0) d.snaps with
      | true => Jbg P ih b c0 r { d with fr := Fr.to d.fr o.dst v }
      | false => none
     | none => none
    | [] => none
   | .a => match Jv P d.fr o.op with
    | some (cs, e, n) => match cs.all Ju with
     | true => Jbg P ih b c0 r { fr := Fr.to d.fr o.dst (JM (c0 + i) n), st := { d.st with box := d.st.box.put (c0 + i) (.cells cs e true (some 0)) }, snaps := d.snaps }
     | false => none
    | none => none
   | .e => match J6 P ih d.fr d.st o.op with
    | .val v st' => Jbg P ih b c0 r { fr := Fr.to d.fr o.dst v, st := st', snaps := (i, st') :: d.snaps }
    | _ => none
def OkP [Memo] (P : Program) (b : List Nat) (c0 : Nat) (L : List (Nat × GOp × Oper)) (fr : Fr) (st : St) (sn : List (Nat × St)) (K : Fr → St → Prop) : Prop :=
 match Jbg P (ihCall (W P)) b c0 L { fr := fr, st := st, snaps := sn } with
 | some d => K d.fr d.st
 | none => False
end Go.Vm
namespace Go.Vm
open Go
theorem JP {cs : List V} : (V.agg cs).cells = cs := rfl
theorem JS {k : IntKind} {n : Int} : (V.int k n).cells = [.int k n] := rfl
theorem JK : V.nils.cells = [.nils] := rfl
theorem JA {b : Bool} : (V.bool b).cells = [.bool b] := rfl
structure Outs (F : Nat → Prop) (st st' : St) : Prop where
 ctr : st.ctr ≤ st'.ctr
 box : ∀ i, i < st.ctr → ¬ F i → st'.box.get i = st.box.get i
variable [Memo]
structure Cons (P : Program) (gl : Gl) (id : Nat) (α : Type) (val : (Nat → Prop) → St → α → List V → Prop) (σ τ : Type) (obs : σ → τ) (F : σ → Nat → Prop) (step : τ → α → τ × Bool) (pre : τ → α → Prop) (I : σ → Bool → St → Prop) : Prop where
 low : ∀ s b st, I s b st → ∀ i, F s i → i < st.ctr
 stable : ∀ s b st st', I s b st → st.ctr ≤ st'.ctr → (∀ i, F s i → st'.box.get i = st.box.get i) → I s b st'
 round : ∀ s st x args, I s false st → val (F s) st x args → pre (obs s) x → ∃ s' st', ihCall (W P) gl (.y id) args st = .val (.bool (step (obs s) x).2) st' ∧ obs s' = (step (obs s) x).1 ∧ I s' (!(step (obs s) x).2) st' ∧ Outs (F s) st st' ∧ ∀ i, F s' i → F s i ∨ st.ctr ≤ i
end Go.Vm
namespace Go.Vm
open Go
def Rz (z : Nat) (css : List (List V)) : Prop := ∀ c ∈ css, c.length = z
theorem Rz.nil {z : Nat} : Rz z [] := fun _ h => by cases h
theorem Rz.app {z : Nat} {a b : List (List V)} (ha : Rz z a) (hb : Rz z b) : Rz z (a ++ b) := fun c hc => by
 rcases List.mem_append.1 hc with h | h
 ·exact ha c h
 ·exact hb c h
theorem Rz.drop {z : Nat} {a : List (List V)} (ha : Rz z a) (n : Nat) : Rz z (a.drop n) := fun c hc => ha c (List.mem_of_mem_drop hc)
theorem Rz.take {z : Nat} {a : List (List V)} (ha : Rz z a) (n : Nat) : Rz z (a.take n) := fun c hc => ha c (List.mem_of_mem_take hc)
theorem Rz.len {z : Nat} : ∀ {css : List (List V)}, Rz z css → css.flatten.length = css.length * z
 | [], _ => by simp
 | c :: css, h => by
  have h1 := Rz.len (css := css) fun d hd => h d (List.mem_cons_of_mem _ hd)
  have h2 := h c (by simp)
  rw [List.flatten_cons, List.length_append, h1, h2, List.length_cons, Nat.succ_mul, Nat.add_comm]
theorem Rz.fdrop {z : Nat} : ∀ {css : List (List V)} (_ : Rz z css) (i : Nat), css.flatten.drop (i * z) = (css.drop i).flatten
 | css, _, 0 => by simp
 | [], _, i + 1 => by simp
 | c :: css, h, i + 1 => by
  have h2 : c.length = z := h c (by simp)
  have h1 := Rz.fdrop (css := css) (fun d hd => h d (List.mem_cons_of_mem _ hd)) i
  rw [List.flatten_cons, Nat.succ_mul, Nat.add_comm, ← List.drop_drop, show (c ++ css.flatten).drop z = css.flatten from by rw [← h2]; simp, h1]
  rfl
theorem Rz.ftake {z : Nat} {css : List (List V)} (h : Rz z css) (i : Nat) : css.flatten.take (i * z) = (css.take i).flatten := by
 have h1 := List.take_append_drop i css
 have h2 : css.flatten = (css.take i).flatten ++ (css.drop i).flatten := by rw [← List.flatten_append, h1]
 by_cases hi : i ≤ css.length
 ·have h3 := (h.take i).len
  rw [List.length_take, Nat.min_eq_left hi] at h3
  rw [h2, List.take_append_of_le_length (by omega), List.take_of_length_le (by omega)]
 ·rw [List.take_of_length_le (l := css) (by omega), List.take_of_length_le]
  rw [h.len]; exact Nat.mul_le_mul_right z (by omega)
theorem Rz.fsub {z : Nat} {css : List (List V)} (h : Rz z css) (lo n : Nat) : sub css.flatten (lo * z) (n * z) = ((css.drop lo).take n).flatten := by
 rw [sub, h.fdrop, (h.drop lo).ftake]
theorem Rz.at {z : Nat} {css : List (List V)} (h : Rz z css) {i : Nat} (hi : i < css.length) : sub css.flatten (i * z) z = css[i] := by
 have := h.fsub i 1
 rw [Nat.one_mul] at this
 rw [this, List.drop_eq_getElem_cons hi, List.take_succ_cons, List.take_zero, List.flatten_cons, List.flatten_nil, List.append_nil]
inductive Sv (z : Nat) (st : St) : V → List (List V) → Prop
 | nils : Sv z st .nils []
 | sl (css : List (List V)) (ex : Bool) (hz : Rz z css) : Sv z st (.sl css.length css.flatten ex) css
 | ms (id off : Nat) (cap : Option Nat) (cs : List V) (e : TypeId) (fl : Bool) (fz : Option Nat) (css : List (List V)) (hz : Rz z css) (hb : st.box.get id = some (.cells cs e fl fz)) (hs : sub cs off (css.length * z) = css.flatten)
   (hlt : off + css.length * z ≤ cs.length) (hid : id < st.ctr) (hcap : JbM css.length css.length cap = true) : Sv z st (.ms id off css.length z cap) css
theorem Sv.rz {z : Nat} {st : St} {x : V} {css : List (List V)} (h : Sv z st x css) : Rz z css := by
 cases h with
 | nils => exact .nil
 | sl _ ex hz => exact hz
 | ms _ _ _ _ _ _ _ _ hz => exact hz
theorem Sv.keep {z : Nat} {st st' : St} {x : V} {css : List (List V)} (h : Sv z st x css) (k : Keep st st') : Sv z st' x css := by
 cases h with
 | nils => exact .nils
 | sl css ex hz => exact .sl css ex hz
 | ms id off cap cs e fl fz css hz hb hs hlt hid hcap => exact .ms id off cap cs e fl fz css hz (by rw [k.box id hid]; exact hb) hs hlt (Nat.lt_of_lt_of_le hid k.ctr) hcap
variable {P : Program} {T e : TypeId} {z : Nat} {st : St} {x : V} {css : List (List V)}
theorem Sv.len (h : Sv z st x css) (hT : P.underlying T = some (.slice e)) : QU P T x = some (.int .i64 (css.length : Int)) := by cases h <;> simp [QU, hT]
theorem Sv.ix (h : Sv z st x css) (hT : P.underlying T = some (.slice e)) (he : JR P e = some z) {k : IntKind} {a : Int} (h0 : 0 ≤ a) (h1 : a < (css.length : Int)) : Jd P T x (.int k a) = some (adr z x a.toNat) := by
 have h2 := Jej (k := k) h0
 have hb : Nat.blt a.toNat css.length = true := by rw [JaU]; exact decide_eq_true (by omega)
 cases h with
 | nils => simp at h1; omega
 | sl css ex hz => simp only [Jd, hT, h2, he, hb, adr]
 | ms id off cap cs e' fl fz css hz hbx hs hlt hid hcap => simp only [Jd, hT, h2, he, hb, adr, Nat.beq_refl]
theorem Sv.get (h : Sv z st x css) {i : Nat} (hi : i < css.length) {t : TypeId} {j m : Nat} (hj : j + m ≤ z) (ha : QO P t = some true) (ht : JR P t = some m) :
  (∀ cs, adr z x i = .cp cs → JB P st t (.cp (cs.drop j)) = some (.agg (sub css[i] j m))) ∧ ∀ id off, adr z x i = .ptr id off → JB P st t (.ptr id (off + j)) = some (.agg (sub css[i] j m)) := by
 have hci := h.rz.at hi
 have hl : css[i].length = z := h.rz _ (List.getElem_mem hi)
 have hm : i * z + z ≤ css.length * z := by
  have := Nat.mul_le_mul_right z (show i + 1 ≤ css.length by omega)
  rwa [Nat.succ_mul] at this
 have hfl := h.rz.len
 have key : ∀ l : List V, sub l (i * z) z = css[i] → sub l (i * z + j) m = sub css[i] j m := fun l hh => by
  rw [← hh]; unfold sub
  rw [← List.drop_drop, List.drop_take, List.take_take, Nat.min_eq_left (by omega)]
 cases h with
 | nils => simp at hi
 | sl css ex hz =>
  refine ⟨fun cs hc => ?_, fun id off hc => by cases hc⟩
  simp only [adr, V.cp.injEq] at hc
  subst hc
  have hb : Nat.ble (0 + m) ((css.flatten.drop (i * z)).drop j).length = true := Nat.ble_eq_true_of_le (by simp only [List.length_drop]; omega)
  simp only [JB, Q5, ha, ht, hb]
  rw [show sub ((css.flatten.drop (i * z)).drop j) 0 m = sub css.flatten (i * z + j) m from by unfold sub; rw [List.drop_zero, List.drop_drop], key _ hci]
 | ms id off cap cs e' fl fz css hz hbx hs hlt hid hcap =>
  refine ⟨fun cs hc => by (cases hc), fun id' off' hc => ?_⟩
  simp only [adr, V.ptr.injEq] at hc
  obtain ⟨rfl, rfl⟩ := hc
  have hb : Nat.ble (off + i * z + j + m) cs.length = true := Nat.ble_eq_true_of_le (by omega)
  simp only [JB, hbx, Q5, ha, ht, hb]
  have h3 : sub cs (off + i * z) z = css[i] := by
   rw [← hs] at hci
   rw [← hci]; unfold sub
   rw [List.drop_take, List.take_take, List.drop_drop, Nat.min_eq_left (by omega)]
  rw [← h3]; unfold sub
  rw [List.drop_take, List.take_take, List.drop_drop, Nat.min_eq_left (by omega)]
theorem Sv.adr_or (h : Sv z st x css) {i : Nat} (hi : i < css.length) : (∃ cs, adr z x i = .cp cs) ∨ ∃ id off, adr z x i = .ptr id off := by
 cases h with
 | nils => simp at hi
 | sl css ex hz => exact .inl ⟨_, rfl⟩
 | ms id off => exact .inr ⟨_, _, rfl⟩
theorem Sv.ld (h : Sv z st x css) (he : JR P e = some z) (ha : QO P e = some true) {i : Nat} (hi : i < css.length) : JB P st e (adr z x i) = some (.agg css[i]) := by
 obtain ⟨h1, h2⟩ := h.get (P := P) hi (t := e) (j := 0) (m := z) (by omega) ha he
 have hl : css[i].length = z := h.rz _ (List.getElem_mem hi)
 have hs : sub css[i] 0 z = css[i] := by unfold sub; rw [List.drop_zero, List.take_of_length_le (by omega)]
 rw [hs] at h1 h2
 rcases h.adr_or hi with ⟨cs, hc⟩ | ⟨id, off, hc⟩
 ·have := h1 cs hc
  rw [List.drop_zero] at this
  rw [hc]; exact this
 ·have := h2 id off hc
  rw [hc]; exact this
theorem Sv.src (h : Sv z st x css) : Qj st z x = some (css.flatten, css.length) := by
 have hfl := h.rz.len
 cases h with
 | nils => rfl
 | sl css ex hz => simp only [Qj, JJ, hfl, Nat.beq_refl]
 | ms id off cap cs e' fl fz css hz hbx hs hlt hid hcap =>
  have hb : Nat.ble (off + css.length * z) cs.length = true := Nat.ble_eq_true_of_le hlt
  simp only [Qj, JJ, hbx, hb, hs]
theorem Sv.cells (h : Sv z st x css) : JJ st z x = some (css.flatten, css.length) := by
 have := h.src
 cases h <;> exact this
inductive Mz (z lo : Nat) (e : TypeId) (st : St) : V → List (List V) → Prop
 | nils : Mz z lo e st .nils []
 | ms (id : Nat) (cap : Option Nat) (cs : List V) (fl : Bool) (css : List (List V)) (hz : Rz z css) (hlo : lo ≤ id) (hid : id < st.ctr) (hb : st.box.get id = some (.cells cs e fl (some 0))) (hs : cs.take (css.length * z) = css.flatten) (hn : css.length * z ≤ cs.length) (hcap : ∀ c, cap = some c → css.length ≤ c ∧ c * z ≤ cs.length) :
   Mz z lo e st (.ms id 0 css.length z cap) css
theorem Mz.sv {lo : Nat} (h : Mz z lo e st x css) : Sv z st x css := by
 cases h with
 | nils => exact .nils
 | ms id cap cs fl css hz hlo hid hb hs hn hcap =>
  refine .ms id 0 cap cs e fl (some 0) css hz hb (by rw [sub, List.drop_zero, hs]) (by omega) hid ?_
  cases cap with
  | none => exact Jaq _
  | some c => exact Nat.ble_eq_true_of_le (hcap c rfl).1
theorem Mz.keep {lo : Nat} {st' : St} (h : Mz z lo e st x css) (k : Keep st st') : Mz z lo e st' x css := by
 cases h with
 | nils => exact .nils
 | ms id cap cs fl css hz hlo hid hb hs hn hcap => exact .ms id cap cs fl css hz hlo (Nat.lt_of_lt_of_le hid k.ctr) (by rw [k.box id hid]; exact hb) hs hn hcap
theorem Mz.low {lo lo' : Nat} (h : Mz z lo e st x css) (hl : lo' ≤ lo) : Mz z lo' e st x css := by
 cases h with
 | nils => exact .nils
 | ms id cap cs fl css hz hlo hid hb hs hn hcap => exact .ms id cap cs fl css hz (Nat.le_trans hl hlo) hid hb hs hn hcap
theorem Mz.stab {lo : Nat} {st' : St} (h : Mz z lo e st x css) (hc : st.ctr ≤ st'.ctr) (hb : ∀ i, vid x i → st'.box.get i = st.box.get i) : Mz z lo e st' x css := by
 cases h with
 | nils => exact .nils
 | ms id cap cs fl css hz hlo hid hbx hs hn hcap => exact .ms id cap cs fl css hz hlo (Nat.lt_of_lt_of_le hid hc) (by rw [hb id rfl]; exact hbx) hs hn hcap
theorem Mz.vid_lt {lo : Nat} (h : Mz z lo e st x css) {i : Nat} (hi : vid x i) : lo ≤ i ∧ i < st.ctr := by
 cases h with
 | nils => cases hi
 | ms id cap cs fl css hz hlo hid hb hs hn hcap => obtain rfl : i = id := hi; exact ⟨hlo, hid⟩
theorem Mz.push {i : TypeInfo} {zv s : V} {m : List (List V)} {lo : Nat} (h : Mz z lo e st x css) (hT : P.underlying T = some (.slice e)) (hi : P.info? e = some i) (hs : i.size = z) (h0 : Nat.beq z 0 = false) (hzv : Q7 P e = some zv) (hzc : zv.cells.length = z)
  (hm : Sv z st s m) (hone : m.flatten.all Ju = true) (hlo : lo ≤ st.ctr) (hb1 : (css.length + m.length) * i.bytes ≤ Jr) (hb2 : css.length + m.length ≤ Jr) :
  ∃ y st', J0 P st T x s = some (y, st') ∧ Low lo st st' ∧ Mz z lo e st' y (css ++ m) ∧ (∀ i, vid y i → vid x i ∨ st.ctr ≤ i) ∧ ∀ i, i < st.ctr → ¬ vid x i → st'.box.get i = st.box.get i := by
 have hsrc := hm.src
 have hmz := hm.rz
 have hfm := hmz.len
 by_cases hme : m.length = 0
 ·obtain rfl := List.length_eq_zero_iff.1 hme
  refine ⟨x, st, ?_, .refl _ _, by rw [List.append_nil]; exact h, fun i hi => .inl hi, fun _ _ _ => rfl⟩
  have hc := h.sv.cells
  simp only [J0, hT, hi, hs, h0, hzv, hsrc, hc]; rfl
 ·have hmb : Nat.beq m.length 0 = false := by rw [Je9]; exact decide_eq_false hme
  have q1 : Nat.ble ((css.length + m.length) * i.bytes) Jr = true := Nat.ble_eq_true_of_le hb1
  have q2 : Nat.ble (css.length + m.length) Jr = true := Nat.ble_eq_true_of_le hb2
  have q3 : Nat.beq zv.cells.length z = true := by rw [hzc, Nat.beq_refl]
  have hxc := h.sv.cells
  have hxz := h.sv.rz
  have hxm := hxz.app hmz
  have hfx := hxz.len
  have hlm : (css ++ m).length = css.length + m.length := List.length_append
  have hmul : (css.length + m.length) * z = css.length * z + m.length * z := Nat.add_mul ..
  have knew : ∀ (cs : List V) (b : Tr Bx), (∀ id, id < lo → b.get id = st.box.get id) → Low lo st { ctr := st.ctr + 1, box := b.put st.ctr (.cells cs e false (some 0)) } := fun cs b hbx => ⟨Nat.le_succ _, fun id hid => by
   show (b.put st.ctr _).get id = _
   rw [Tr.get_put, if_neg (by omega)]; exact hbx id hid⟩
  have mnew : ∀ (b : Tr Bx), Mz z lo e { ctr := st.ctr + 1, box := b.put st.ctr (.cells (css.flatten ++ m.flatten) e false (some 0)) } (.ms st.ctr 0 (css.length + m.length) z none) (css ++ m) := fun b => by
   have := Mz.ms (z := z) (lo := lo) (e := e) (st := { ctr := st.ctr + 1, box := b.put st.ctr (.cells (css.flatten ++ m.flatten) e false (some 0)) }) st.ctr none (css.flatten ++ m.flatten) false (css ++ m) hxm hlo (Nat.lt_succ_self _) (by show (b.put st.ctr _).get _ = _; rw [Tr.get_put, if_pos rfl]) (by rw [hlm, hmul, List.flatten_append, List.take_of_length_le (by rw [List.length_append]; omega)]) (by rw [hlm, hmul, List.length_append]; omega) (fun c hc => by cases hc)
   rwa [hlm] at this
  cases h with
  | nils =>
   refine ⟨.ms st.ctr 0 ([].length + m.length) z none, { ctr := st.ctr + 1, box := st.box.put st.ctr (.cells ([] ++ m.flatten) e false (some 0)) }, ?_, knew _ _ fun _ _ => rfl, mnew _, fun i hi => .inr (Nat.le_of_eq (show i = st.ctr from hi).symm), fun i hi _ => by show (st.box.put st.ctr _).get i = _; rw [Tr.get_put, if_neg (by omega)]⟩
   simp only [J0, hT, hi, hs, h0, hzv, hsrc, JJ, hmb, q3, hone]
   rw [show Nat.ble ((0 + m.length) * i.bytes) Jr = true from q1, show Nat.ble (0 + m.length) Jr = true from q2]
   simp
  | ms id cap cs fl css hz hlo' hid hb hs' hn hcap =>
   have h1 : Nat.ble (0 + css.length * z) cs.length = true := Nat.ble_eq_true_of_le (by omega)
   have hgen : ∀ y st', (match QV cs.length 0 css.length m.length z cap with
     | .here => (match Nat.ble (0 + (css.length + m.length) * z) cs.length && Jb8 (some 0) (0 + css.length * z) with
      | true => some (V.ms id 0 (css.length + m.length) z cap, { st with box := st.box.put id (.cells (over cs (0 + css.length * z) m.flatten) e fl (some 0)) })
      | false => none)
     | .fresh => some (V.ms st.ctr 0 (css.length + m.length) z none, { ctr := st.ctr + 1, box := st.box.put st.ctr (.cells (css.flatten ++ m.flatten) e false (some 0)) })
     | .gone => (match Jb8 (some 0) (0 + css.length * z) && Nat.beq e e with
      | true => some (V.ms st.ctr 0 (css.length + m.length) z none, { ctr := st.ctr + 1, box := (st.box.del id).put st.ctr (.cells (css.flatten ++ m.flatten) e false (Jgy (some 0) 0)) })
      | false => none)) = some (y, st') → J0 P st T (.ms id 0 css.length z cap) s = some (y, st') := fun y st' hh => by
    have hxc' : JJ st z (.ms id 0 css.length z cap) = some (css.flatten, css.length) := hxc
    simp only [J0, hT, hi, hs, h0, hzv, hsrc, hxc', hb, hmb, q1, q2, q3, hone, Bool.and_self, Nat.beq_refl]
    rw [Nat.beq_refl] at hh
    exact hh
   have hfz : Jb8 (some 0) (0 + css.length * z) = true := Nat.ble_eq_true_of_le (Nat.zero_le _)
   have hee : Nat.beq e e = true := Nat.beq_refl e
   have here : (css.length + m.length) * z ≤ cs.length → (∀ c, cap = some c → css.length + m.length ≤ c) → (match Nat.ble (0 + (css.length + m.length) * z) cs.length && Jb8 (some 0) (0 + css.length * z) with
      | true => some (V.ms id 0 (css.length + m.length) z cap, ({ st with box := st.box.put id (.cells (over cs (0 + css.length * z) m.flatten) e fl (some 0)) } : St))
      | false => none) = some (V.ms id 0 (css.length + m.length) z cap, { st with box := st.box.put id (.cells (over cs (css.length * z) m.flatten) e fl (some 0)) }) ∧
     Low lo st { st with box := st.box.put id (.cells (over cs (css.length * z) m.flatten) e fl (some 0)) } ∧ Mz z lo e { st with box := st.box.put id (.cells (over cs (css.length * z) m.flatten) e fl (some 0)) } (.ms id 0 (css.length + m.length) z cap) (css ++ m) := fun hle hc => by
    have h2 : Nat.ble (0 + (css.length + m.length) * z) cs.length = true := Nat.ble_eq_true_of_le (by omega)
    refine ⟨by rw [h2, hfz, show 0 + css.length * z = css.length * z from by omega]; rfl, ⟨Nat.le_refl _, fun i hi => by show (st.box.put id _).get i = _; rw [Tr.get_put, if_neg (by omega)]⟩, ?_⟩
    have hol := Jfo cs m.flatten (css.length * z) (by rw [hfm]; omega)
    have := Mz.ms (z := z) (lo := lo) (e := e) (st := { st with box := st.box.put id (.cells (over cs (css.length * z) m.flatten) e fl (some 0)) }) id cap (over cs (css.length * z) m.flatten) fl (css ++ m) hxm hlo' hid (by show (st.box.put id _).get _ = _; rw [Tr.get_put, if_pos rfl]) (by rw [hlm, hmul, ← hfm, Jgt _ _ _ (by omega), hs', List.flatten_append]) (by rw [hol, hlm]; exact hle) (fun c hc' => by rw [hol, hlm]; exact ⟨hc c hc', (hcap c hc').2⟩)
    rwa [hlm] at this
   cases cap with
   | some c =>
    by_cases hc : css.length + m.length ≤ c
    ·have hcz : (css.length + m.length) * z ≤ cs.length := Nat.le_trans (Nat.mul_le_mul_right z hc) (hcap c rfl).2
     obtain ⟨a1, a2, a3⟩ := here hcz (fun c' hc' => by cases hc'; exact hc)
     refine ⟨_, _, hgen _ _ ?_, a2, a3, fun i hi => .inl hi, fun i hi hn => by show (st.box.put id _).get i = _; rw [Tr.get_put, if_neg (show ¬ i = id from hn)]⟩
     rw [show QV cs.length 0 css.length m.length z (some c) = .here from by simp only [QV, Nat.ble_eq_true_of_le hc]]
     exact a1
    ·refine ⟨_, _, hgen (.ms st.ctr 0 (css.length + m.length) z none) { ctr := st.ctr + 1, box := st.box.put st.ctr (.cells (css.flatten ++ m.flatten) e false (some 0)) } ?_, knew _ _ fun _ _ => rfl, mnew _, fun i hi => .inr (Nat.le_of_eq (show i = st.ctr from hi).symm), fun i hi _ => by show (st.box.put st.ctr _).get i = _; rw [Tr.get_put, if_neg (by omega)]⟩
     have hcb : Nat.ble (css.length + m.length) c = false := by
      cases hx : Nat.ble (css.length + m.length) c with
      | false => rfl
      | true => exact absurd (Nat.le_of_ble_eq_true hx) hc
     rw [show QV cs.length 0 css.length m.length z (some c) = .fresh from by simp only [QV, hcb]]
   | none =>
    by_cases hc : (css.length + m.length) * z ≤ cs.length
    ·obtain ⟨a1, a2, a3⟩ := here hc (fun c' hc' => by cases hc')
     refine ⟨_, _, hgen _ _ ?_, a2, a3, fun i hi => .inl hi, fun i hi hn => by show (st.box.put id _).get i = _; rw [Tr.get_put, if_neg (show ¬ i = id from hn)]⟩
     rw [show QV cs.length 0 css.length m.length z none = .here from by simp only [QV, Nat.ble_eq_true_of_le (show 0 + (css.length + m.length) * z ≤ cs.length by omega)]]
     exact a1
    ·refine ⟨_, _, hgen (.ms st.ctr 0 (css.length + m.length) z none) { ctr := st.ctr + 1, box := (st.box.del id).put st.ctr (.cells (css.flatten ++ m.flatten) e false (some 0)) } ?_, knew _ _ fun i hi => by rw [Tr.get_del, if_neg (by omega)], mnew _, fun i hi => .inr (Nat.le_of_eq (show i = st.ctr from hi).symm), fun i hi hn => by show ((st.box.del id).put st.ctr _).get i = _; rw [Tr.get_put, if_neg (by omega), Tr.get_del, if_neg (show ¬ i = id from hn)]⟩
     have hcb : Nat.ble (0 + (css.length + m.length) * z) cs.length = false := by
      cases hx : Nat.ble (0 + (css.length + m.length) * z) cs.length with
      | false => rfl
      | true => exact absurd (Nat.le_of_ble_eq_true hx) (by omega)
     rw [show QV cs.length 0 css.length m.length z none = .gone from by simp only [QV, hcb]]
     simp only [hfz, hee, Bool.and_self]
     rfl
end Go.Vm
namespace Go.Vm
open Go
variable {P : Program}
end Go.Vm
namespace Go.Pa
end Go.Pa
namespace Go.Vm
open Go Go.Proofs Go.Sy
set_option maxRecDepth 100000
attribute [local simp] OkG Ql QG OkD Qf J8 JT Jj Jo vop Js Jy ev evs toV Jn Fr.dsTo Fr.glTo Fr.toNone Jk Jl Jm J6 Qe Jc Jz Jw V.undef JU JO Qn Qo Qt Qp Qu Qv JN Qw Qx Qy J7 Qz Ji Jt JG Jq JI Jp JX J2
theorem z5 : JR Tryz.prog 5 = some 1 := by kernel_rfl
theorem a5 : QO Tryz.prog 5 = some false := by kernel_rfl
theorem z9 : JR Tryz.prog 9 = some 1 := by kernel_rfl
theorem a9 : QO Tryz.prog 9 = some false := by kernel_rfl
set_option maxRecDepth 100000 in
theorem i9 : ∃ i, Tryz.prog.info? 9 = some i ∧ i.size = 1 ∧ i.bytes ≤ 64 := ⟨_, rfl, by decide, by decide⟩
theorem zs9 : Q7 Tryz.prog 9 = some (.str ⟨0, 0⟩) := by kernel_rfl
theorem bs0 : Qc Tryz.prog 31 0 [] = some ([], 9, 1) := by kernel_rfl
theorem bs1 (s : S) : Qc Tryz.prog 31 1 [(0, .str s)] = some ([.str s], 9, 1) := by kernel_rfl
theorem JfL {st : St} {x s : V} {l m : List V} {lo : Nat} (h : Mine lo 9 st x l) (hm : JcM st s m) (hlo : lo ≤ st.ctr) (hb : l.length + m.length ≤ 1000000) :
  ∃ y st', J0 Tryz.prog st 31 x s = some (y, st') ∧ Low lo st st' ∧ Mine lo 9 st' y (l ++ m) ∧ ∀ i, vid y i → vid x i ∨ st.ctr ≤ i := by
 obtain ⟨i, hi, h1, h2⟩ := i9
 refine h.push Tryz.underlying31 hi h1 zs9 rfl hm hlo ?_ (by simp [Jr]; omega)
 refine Nat.le_trans (Nat.mul_le_mul hb h2) (by simp [Jr])
theorem JgI {lo : Nat} {st : St} {id : Nat} {cs : List V} (hlo : lo ≤ id) (hid : id < st.ctr) (hb : st.box.get id = some (.cells cs 9 true (some 0))) : Mine lo 9 st (.ms id 0 cs.length 1 (some cs.length)) cs := Mine.mk hlo hid hb rfl
theorem Jmj {st : St} {T id : Nat} {v w : V} {e : TypeId} {fl : Bool} (hz : JR Tryz.prog T = some 1) (hs : JiS v = true) (hb : st.box.get id = some (.cells [w] e fl (some 0))) : JaN Tryz.prog st T (.ptr id 0) v = some (st.put id (.cells [v] e fl (some 0))) := by
 rw [QB hz hb (by simp) hs]; rfl
theorem Jby (a b : S) : (a.app b).n = a.n + b.n := rfl
theorem Jb (l : List UInt8) : (S.ofList l).n = l.length := rfl
theorem Jjd (s : S) {i : Nat} (h : i < s.n) : s.toList.take (i + 1) = s.toList.take i ++ [UInt8.ofNat (s.at i)] := by
 have h1 := s.toList_at h
 have h2 : i < s.toList.length := by rw [S.len]; exact h
 rw [List.take_add_one, h1]; rfl
theorem Jox {s : S} {i : Nat} (h : i < s.n) : (s.cut i (i + 1)).toList = [UInt8.ofNat (s.at i)] := by
 rw [S.toList_cut s (by omega) (by omega), S.drop_at s h]
 simp
theorem Jia (st : St) (n : Nat) : Keep st { ctr := st.ctr + n, box := st.box } := ⟨Nat.le_add_right _ _, fun _ _ => rfl⟩
theorem QQ {P : Program} {kk : Bool} {T : TypeId} {x y : S} (h : x.n + y.n < 1000000000000000) : Je P kk .add T (.str x) (.str y) = some (.str (x.app y)) := by
 have : Nat.ble (Nat.add x.n y.n) maxStr = true := Nat.ble_eq_true_of_le (by show x.n + y.n ≤ maxStr; unfold maxStr; omega)
 simp only [Je, this]
theorem Jb0 (st : St) (n : Nat) : ∃ q : St, ({ ctr := st.ctr + n, box := st.box } : St) = q ∧ Keep st q ∧ st.ctr + n = q.ctr := ⟨_, rfl, Jia st n, rfl⟩
theorem QE {P : Program} {T : TypeId} (x y : S) (h : x.n + y.n < 1000000000000000) : ∃ z : S, (∀ kk, Je P kk .add T (.str x) (.str y) = some (.str z)) ∧ z.toList = x.toList ++ y.toList ∧ z.n = x.n + y.n :=
 ⟨x.app y, fun _kk => QQ h, S.toList_app x y, Jby x y⟩
theorem vlen9 (s : S) : QU Tryz.prog 9 (.str s) = some (.int .i64 (s.n : Int)) := by simp only [QU, Tryz.underlying9]; rfl
theorem JpP : JR Tryz.prog 31 = some 1 := by kernel_rfl
theorem JpQ : QO Tryz.prog 31 = some false := by kernel_rfl
def QM (st : St) (cs : List V) (T : TypeId) : St := st.new (.cells cs T true (some 0))
theorem JL (st : St) (cs : List V) (T : TypeId) : Keep st (QM st cs T) := (Keep.refl st).new' _
theorem JZ (st : St) (cs : List V) (T : TypeId) : ({ ctr := st.ctr + 1, box := st.box.put st.ctr (.cells cs T true (some 0)) } : St) = QM st cs T := rfl
theorem Jae (st : St) (cs : List V) (T : TypeId) : (QM st cs T).ctr = st.ctr + 1 := rfl
theorem Jaf (st : St) (cs : List V) (T : TypeId) : (QM st cs T).box.get st.ctr = some (.cells cs T true (some 0)) := by unfold QM; rw [Q9, if_pos rfl]
theorem Joy {T : TypeId} (hz : JR Tryz.prog T = some 1) {s : St} {id : Nat} {x v : V} {fl : Bool} (hb : s.box.get id = some (.cells [x] T fl (some 0))) (hv : JiS v = true) :
  ∃ s', JaN Tryz.prog s T (.ptr id 0) v = some s' ∧ s'.box.get id = some (.cells [v] T fl (some 0)) ∧ s'.ctr = s.ctr ∧ ∀ j, j ≠ id → s'.box.get j = s.box.get j :=
 ⟨_, QB hz hb (by simp) hv, by show (s.box.put id _).get id = _; rw [Tr.get_put, if_pos rfl]; rfl, rfl, fun j hj => by show (s.box.put id _).get j = _; rw [Tr.get_put, if_neg hj]⟩
end Go.Vm
namespace Go.Vm
open Go Go.Proofs Go.Pa
set_option maxRecDepth 100000
attribute [local simp] OkG Ql QG OkD Qf J8 JT Jj Jo vop Js Jy ev evs toV Jn Fr.dsTo Fr.glTo Fr.toNone Jk Jl Jm J6 Qe Jc Jz Jw V.undef JU JO Qn Qo Qt Qp Qu Qv JN Qw Qx Qy J7 Qz Ji Jt JG Jq JI Jp JX J2 Jv JM JP JS JK
set_option maxRecDepth 100000 in
theorem i5 : ∃ i, Tryz.prog.info? 5 = some i ∧ i.size = 1 ∧ i.bytes ≤ 64 := ⟨_, rfl, by decide, by decide⟩
theorem zs5 : Q7 Tryz.prog 5 = some (.int .u8 0) := by kernel_rfl
theorem z90 : JR Tryz.prog 65 = some 1 := by kernel_rfl
theorem a90 : QO Tryz.prog 65 = some false := by kernel_rfl
theorem z91 : JR Tryz.prog 66 = some 1 := by kernel_rfl
theorem a91 : QO Tryz.prog 66 = some false := by kernel_rfl
theorem Q8 : Q7 Tryz.prog 68 = some (.agg [.nilp, .nils]) := by kernel_rfl
theorem fb0 (id : Nat) : JD Tryz.prog 68 (.ptr id 0) 0 = some (.ptr id 0) := by kernel_rfl
theorem fb1 (id : Nat) : JD Tryz.prog 68 (.ptr id 0) 1 = some (.ptr id 1) := by kernel_rfl
theorem u91 : Tryz.prog.underlying 66 = some (.slice 5) := by kernel_rfl
theorem u5 : Tryz.prog.underlying 5 = some (.int .u8) := by kernel_rfl
theorem J5 (l : List UInt8) : (Qi l).length = l.length := by simp [Qi]
theorem Jcy (a b : List UInt8) : Qi (a ++ b) = Qi a ++ Qi b := by simp [Qi]
theorem JfM (l : List UInt8) : (Qi l).all Ju = true := by simp [Qi, Ju]
theorem Jet : ∀ l : List UInt8, bytesOf (Qi l) = some l
 | [] => rfl
 | a :: l => by
  have ih := Jet l
  simp only [Qi, List.map_cons, bytesOf] at ih ⊢
  rw [ih]; simp
theorem Jje {st : St} {x s : V} {l m : List V} {lo : Nat} (h : Mine lo 5 st x l) (hm : JcM st s m) (hlo : lo ≤ st.ctr) (hb : l.length + m.length ≤ 1000000000000) :
  ∃ y st', J0 Tryz.prog st 66 x s = some (y, st') ∧ Low lo st st' ∧ Mine lo 5 st' y (l ++ m) ∧ (∀ i, vid y i → vid x i ∨ st.ctr ≤ i) ∧ ∀ i, i < st.ctr → ¬ vid x i → st'.box.get i = st.box.get i := by
 obtain ⟨i, hi, h1, h2⟩ := i5
 refine h.push2 u91 hi h1 zs5 rfl hm hlo ?_ (by simp [Jr]; omega)
 refine Nat.le_trans (Nat.mul_le_mul hb h2) (by simp [Jr])
theorem JfN (st : St) (s : S) : JcM st (.str s) (Qi s.toList) := by
 refine ⟨?_, JfM _⟩
 simp only [Qj, J5, S.len]
def Bld (lo b : Nat) (st : St) (l : List UInt8) : Prop := ∃ y, st.box.get b = some (.cells [.ptr b 0, y] 68 true (some 0)) ∧ lo ≤ b ∧ b < st.ctr ∧ Mine lo 5 st y (Qi l) ∧ ¬ vid y b
theorem Joz : liesAt Tryz.prog Tryz.prog.depth 68 ([V.nilp, V.nils].length / Tryz.prog.cellsOf 68) 0 68 1 = true := by kernel_rfl
theorem u90 : Tryz.prog.underlying 65 = some (.pointer 68) := by kernel_rfl
theorem Jph : Tryz.prog.underlying 104 = some .unsafePointer := by kernel_rfl
theorem z93 : JR Tryz.prog 68 = some 2 := by kernel_rfl
theorem Jpi {st : St} {id : Nat} (hb : st.box.get id = some (.cells [.nilp, .nils] 68 true (some 0))) : Jbx Tryz.prog st 65 104 (.ptr id 0) = some (.ptr id 0) := by
 simp only [Jbx, u90, Jph, hb, z93]
 rfl
theorem Jpj {st : St} {id : Nat} (hb : st.box.get id = some (.cells [.nilp, .nils] 68 true (some 0))) : Jbx Tryz.prog st 104 65 (.ptr id 0) = some (.ptr id 0) := by
 simp only [Jbx, u90, Jph, hb, z93, Joz]
theorem Jmk {id off : Nat} {kk : Bool} : Je Tryz.prog kk .eql 65 (.ptr id off) .nilp = some (.bool false) := by simp only [Je, u90]
theorem Jke {kk : Bool} : Je Tryz.prog kk .eql 65 .nilp .nilp = some (.bool true) := by cases kk <;> kernel_rfl
theorem JfO {id : Nat} {kk : Bool} : Je Tryz.prog kk .neq 65 (.ptr id 0) (.ptr id 0) = some (.bool false) := by
 simp only [Je, u90, z93, Nat.beq_refl]
 rfl
theorem JpR : Tryz.prog.underlying 90 = some (.pointer 5) := by kernel_rfl
theorem co5 : Tryz.prog.cellsOf 5 = 1 := by kernel_rfl
theorem JpS {st : St} {lo m : Nat} {y : V} {l : List UInt8} (hm : Mine lo 5 st y (Qi l)) (hlm : l.length = m + 1) (hl : l.length ≤ 1000000000000) :
  ∃ id cap st', y = .ms id 0 (m + 1) 1 cap ∧ JbP Tryz.prog { ctr := st.ctr + 12, box := st.box } 90 (.ptr id 0) (.int .i64 (l.length : Int)) = some (.str (S.ofList l), st') ∧ Low lo st st' := by
 generalize hb : Qi l = bl at hm
 cases hm with
 | nils =>
  have := congrArg List.length hb
  rw [J5] at this
  have h0 : l.length = 0 := this
  omega
 | ms id n cap cs fl hlo hid hbx hn hcap =>
  have hnl : n = l.length := by
   have := congrArg List.length hb
   rw [J5, List.length_take, Nat.min_eq_left hn] at this
   exact this.symm
  have h1 : Nat.ble (0 + l.length) cs.length = true := Nat.ble_eq_true_of_le (by omega)
  have h2 : Nat.ble l.length Jr = true := Nat.ble_eq_true_of_le (by simp [Jr]; omega)
  have h3 : bytesOf (sub cs 0 l.length) = some l := by
   rw [show sub cs 0 l.length = Qi l from by rw [hb, hnl]; rfl]
   exact Jet l
  refine ⟨id, cap, { ctr := st.ctr + 12, box := st.box.put id (.cells cs 5 fl (some (Nat.max 0 (0 + l.length)))) }, by rw [← hlm, ← hnl], ?_, ⟨by show st.ctr ≤ st.ctr + 12; omega, fun i hi => by show (st.box.put id _).get i = _; rw [Tr.get_put, if_neg (by omega)]⟩⟩
  have ha : Ja6 (.int .i64 (l.length : Int)) = some (m + 1) := by rw [← hlm]; rfl
  simp only [JbP, ha, hbx, JpR, co5]
  rw [← hlm, h1, h2, h3]
  rfl
variable [Memo] [NY]
set_option maxRecDepth 100000 in
theorem Jd0 (gl : Gl) (st : St) (b : Nat) (y : V) (hb : st.box.get b = some (.cells [.ptr b 0, y] 68 true (some 0))) :
  Says Tryz.prog gl 49 [.ptr b 0] st (fun _v st' => Sm st st') := by
 refine Qb (NY.no _ rfl rfl rfl _ _) Tryz.func49 rfl (by kernel_rfl) fun R hR K gr gn => ?_
 generalize hfr : JC gl [.ptr b 0] = fr
 have hF : Fs gl [(0, .ptr b 0)] fr := by subst hfr; simp [Fs]
 simp only [Fs] at hF
 clear hfr
 have l0 := Jf (P := Tryz.prog) (off := 0) a90 z90 hb rfl
 refine Ks_ (Ka_ (gs := [none, none, none, none, none]) fun K1 gK => ?_)
 simp (disch := omega) [hF, fb0, l0, Jmk]
 refine gK _ _ (Kf_ (by simp (disch := omega) []) (Ks_ (Ka_ (gs := [none, none, none, none, none, none]) fun K1 gK => ?_)))
 simp (disch := omega) [hF, fb0, l0, JfO]
 refine gK _ _ (Kf_ (by simp (disch := omega) []) (Kk_ (gn _ _ ?_)))
 simp [JW, Tryz.f49, hF]
 refine hR _ _ ?_
 exact rfl
set_option maxRecDepth 100000 in
theorem Jdt (gl : Gl) (st : St) (b : Nat) (hb : st.box.get b = some (.cells [.nilp, .nils] 68 true (some 0))) :
  Says Tryz.prog gl 49 [.ptr b 0] st (fun _v st' => st' = st.put b (.cells [.ptr b 0, .nils] 68 true (some 0))) := by
 refine Qb (NY.no _ rfl rfl rfl _ _) Tryz.func49 rfl (by kernel_rfl) fun R hR K gr gn => ?_
 generalize hfr : JC gl [.ptr b 0] = fr
 have hF : Fs gl [(0, .ptr b 0)] fr := by subst hfr; simp [Fs]
 simp only [Fs] at hF
 clear hfr
 have l0 := Jf (P := Tryz.prog) (off := 0) a90 z90 hb rfl
 have c1 := Jpi hb
 have c2 := Jpj hb
 have w := QB (P := Tryz.prog) (t := 65) (off := 0) (v := .ptr b 0) z90 hb (by simp) rfl
 have hdoor : JaA Tryz.prog (ihCall (W Tryz.prog)) gl 79 [.ptr b 0] st = .val (.ptr b 0) st := by
  have hn : Extern.findNext Tryz.f79 = none := by kernel_rfl
  have hx : Jal Tryz.prog Tryz.f79 [.ptr b 0] = none := by
   simp only [Jal, hn]
   cases Extern.find Tryz.f79 with
   | none => rfl
   | some e => rfl
  have hd : JgA Tryz.prog Tryz.f79 [.ptr b 0] st = some (.ptr b 0, st) := rfl
  simp only [JaA, Tryz.func79, show (Tryz.f79.name == "runtime.NumGoroutine") = false from by kernel_rfl, show Tryz.f79.body = none from rfl, hx, hn, hd]
 refine Ks_ (Ka_ (gs := [none, none, none, none, none]) fun K1 gK => ?_)
 simp (disch := omega) [hF, fb0, l0, Jke]
 refine gK _ _ (Kt_ (by simp (disch := omega) []) (Ka_ (gs := [none, none, none, none, none, none, none, none]) fun K1 gK => ?_))
 simp (disch := omega) [hF, fb0, c1, c2, w, hdoor]
 refine gK _ _ (gn _ _ ?_)
 simp [JW, Tryz.f49, hF]
 refine hR _ _ ?_
 exact rfl
set_option maxRecDepth 100000 in
omit [Memo] [NY] in
theorem JoA [Memo] {gl : Gl} {st : St} {N : Nat} (h0 : 0 < N) (hN : N ≤ 1000000000000) : JaA Tryz.prog (ihCall (W Tryz.prog)) gl 80 [.int .i64 (N : Int)] st = .val (.ms st.ctr 0 N 1 none) { ctr := st.ctr + 1, box := st.box.put st.ctr (.cells [] 5 false (some 0)) } := by
 obtain ⟨n, rfl⟩ : ∃ n, N = n + 1 := ⟨N - 1, by omega⟩
 have hn : Extern.findNext Tryz.f80 = none := by kernel_rfl
 have hx : Jal Tryz.prog Tryz.f80 [.int .i64 ((n + 1 : Nat) : Int)] = none := by
  have hf := JeS Tryz.f80 (by kernel_rfl)
  have hu : QI Tryz.prog (Extern.BytealgMakeNoZero.makeNoZero Tryz.f80.params #[66] #[.int .i64 ((n + 1 : Nat) : Int)]) = none := by
   have hc : (decide (((n + 1 : Nat) : Int) < 0) || decide (((n + 1 : Nat) : Int) > 2 ^ 48)) = false := by
    rw [decide_eq_false (by omega), decide_eq_false (by omega)]; rfl
   have hdef : Extern.BytealgMakeNoZero.makeNoZero Tryz.f80.params #[66] #[.int .i64 ((n + 1 : Nat) : Int)] = (do
     let .slice elem ← underlying 66 | stuck "bytealg.MakeNoZero: slice type expected"
     if ((n + 1 : Nat) : Int) < 0 || ((n + 1 : Nat) : Int) > 2 ^ 48 then runtimePanic (.error "makeslice: len out of range")
     let cap ← choose (.appendCap ((n + 1 : Nat) : Int).toNat 0 elem)
     askRoom cap
     let bytes ← choose (.extern "internal/bytealg.MakeNoZero.bytes" 0)
     let a ← newRow elem (Extern.BytealgMakeNoZero.digits cap bytes #[])
     pure (.slice (some a) ((n + 1 : Nat) : Int).toNat cap)) := rfl
   rw [hdef, Q4, Q6 u91]
   simp only [Option.bind_some, hc, Bool.false_eq_true, if_false]
   rfl
  rw [show Jal Tryz.prog Tryz.f80 [.int .i64 ((n + 1 : Nat) : Int)] = QJ Tryz.prog (fun l => Extern.BytealgMakeNoZero.makeNoZero Tryz.f80.params Tryz.f80.resultTypes l.toArray) [.int .i64 ((n + 1 : Nat) : Int)] from by simp only [Jal, hn, hf]]
  rw [show Tryz.f80.resultTypes = #[66] from by kernel_rfl]
  simp only [QJ, Jc, ofV]
  show (match QI Tryz.prog (Extern.BytealgMakeNoZero.makeNoZero Tryz.f80.params #[66] #[.int .i64 ((n + 1 : Nat) : Int)]) with
   | some v => toV 6 v
   | none => none) = none
  rw [hu]
 have hb : Nat.ble (n + 1) Jr = true := Nat.ble_eq_true_of_le (by simp [Jr]; omega)
 have hd : JgA Tryz.prog Tryz.f80 [.int .i64 ((n + 1 : Nat) : Int)] st = some (.ms st.ctr 0 (n + 1) 1 none, { ctr := st.ctr + 1, box := st.box.put st.ctr (.cells [] 5 false (some 0)) }) := by
  show (match Tryz.f80.resultTypes.toList, Nat.ble (n + 1) Jr with
   | [t], true => (match Tryz.prog.underlying t with
    | some (.slice e) => some (V.ms st.ctr 0 (n + 1) 1 none, ({ ctr := st.ctr + 1, box := st.box.put st.ctr (.cells [] e false (some 0)) } : St))
    | _ => none)
   | _, _ => none) = _
  rw [hb, show Tryz.f80.resultTypes.toList = [66] from by kernel_rfl]
  simp only [u91]
 simp only [JaA, Tryz.func80, show (Tryz.f80.name == "runtime.NumGoroutine") = false from by kernel_rfl, show Tryz.f80.body = none from rfl, hx, hn, hd]
set_option maxRecDepth 100000 in
theorem JnA (gl : Gl) (st : St) (b N : Nat) (h0 : 0 < N) (hN : N ≤ 1000000000000) (hbc : b < st.ctr) (hb : st.box.get b = some (.cells [.ptr b 0, .nils] 68 true (some 0))) :
  Says Tryz.prog gl 50 [.ptr b 0, .int .i64 (N : Int)] st (fun _v st' => Bld b b st' [] ∧ st.ctr ≤ st'.ctr ∧ ∀ i, i < st.ctr → i ≠ b → st'.box.get i = st.box.get i) := by
 refine Qb (NY.no _ rfl rfl rfl _ _) Tryz.func50 rfl (by kernel_rfl) fun R hR K gr gn => ?_
 generalize hfr : JC gl [.ptr b 0, .int .i64 (N : Int)] = fr
 have hF : Fs gl [(0, .ptr b 0), (1, .int .i64 (N : Int))] fr := by subst hfr; simp [Fs]
 simp only [Fs] at hF
 clear hfr
 have l1 := Jf (P := Tryz.prog) (off := 1) a91 z91 hb rfl
 have hmul : ∀ kk, Je Tryz.prog kk .mul 3 (.int .i64 2) (.int .i64 0) = some (.int .i64 0) := fun kk => by cases kk <;> kernel_rfl
 have hd := JoA (gl := gl) (st := { ctr := st.ctr + 16, box := st.box }) h0 hN
 obtain ⟨q1, hq1⟩ : ∃ s : St, s = { ctr := st.ctr + 16 + 1, box := st.box.put (st.ctr + 16) (.cells [] 5 false (some 0)) } := ⟨_, rfl⟩
 have k1 : Keep st q1 := by rw [hq1]; exact ((Keep.refl st).tick 16).new _
 have c1 : q1.ctr = st.ctr + 17 := by rw [hq1]
 have g1 : q1.box.get (st.ctr + 16) = some (.cells [] 5 false (some 0)) := by rw [hq1]; simp [Tr.get_put]
 have hb1 := (k1.box b hbc).trans hb
 have l2 := Jf (P := Tryz.prog) (off := 1) a91 z91 hb1 rfl
 have hsl : QA Tryz.prog 66 (.ms (st.ctr + 16) 0 N 1 none) none (some (.int .i64 0)) = some (.ms (st.ctr + 16) 0 0 1 none) := by
  simp only [QA, u91, JH, z5, show Ja6 (.int .i64 0) = some 0 from rfl]
  simp [JbM, JcR, Nat.ble]
 have hq1' := hq1.symm
 have w := QB (P := Tryz.prog) (st := q1) (t := 66) (off := 1) (v := .ms (st.ctr + 16) 0 0 1 none) z91 hb1 (by simp) rfl
 have hcp : JeH Tryz.prog q1 66 (.ms (st.ctr + 16) 0 0 1 none) .nils = some (.int .i64 0, q1) := by
  simp only [JeH, u91, z5, Qj, JJ]
 have u91' := u91
 refine Ks_ (Ki_ (b := [0, 1, 3, 7, 15, 31, 0, 127, 255, 0, 512, 1536, 3584, 7680, 16383, 32767]) fun K1 gK => ?_)
 simp (disch := omega) [hF, fb1, l1, hmul, hd, l2, hsl, hq1', u91', QU]
 refine gK _ _ (Ks_ (Ka_ (gs := [none, none, none, none, none, none]) fun K1 gK => ?_))
 simp (disch := omega) [hF, fb1, l2, hcp]
 refine gK _ _ (Ka_ (gs := [none, none, none, none, none]) fun K1 gK => ?_)
 simp (disch := omega) [hF, fb1, w]
 refine gK _ _ (gn _ _ ?_)
 simp [JW, Tryz.f50, hF]
 refine hR _ _ ?_
 have hbb : (q1.put b (.cells [.ptr b 0, .ms (st.ctr + 16) 0 0 1 none] 68 true (some 0))).box.get b = some (.cells [.ptr b 0, .ms (st.ctr + 16) 0 0 1 none] 68 true (some 0)) := by rw [QD, if_pos rfl]
 refine ⟨⟨.ms (st.ctr + 16) 0 0 1 none, hbb, Nat.le_refl _, by show b < q1.ctr; omega, ?_, by show ¬ b = st.ctr + 16; omega⟩, by show st.ctr ≤ q1.ctr; omega, fun i hi hib => ?_⟩
 ·have := Mine.ms (lo := b) (e := 5) (st := q1.put b (.cells [.ptr b 0, .ms (st.ctr + 16) 0 0 1 none] 68 true (some 0))) (st.ctr + 16) 0 none [] false (by omega) (by rw [JgX]; omega) (by rw [QD, if_neg (by omega)]; exact g1) (Nat.le_refl _) (fun c hc => by cases hc)
  exact this
 ·show (q1.put b _).box.get i = _
  rw [QD, if_neg hib]; exact k1.box i hi
set_option maxRecDepth 100000 in
theorem Jml (gl : Gl) (st : St) (b N : Nat) (h0 : 0 < N) (hN : N ≤ 1000000000000) (hbc : b < st.ctr) (hb : st.box.get b = some (.cells [.nilp, .nils] 68 true (some 0))) :
  Says Tryz.prog gl 31 [.ptr b 0, .int .i64 (N : Int)] st (fun _v st' => Bld b b st' [] ∧ st.ctr ≤ st'.ctr ∧ ∀ i, i < st.ctr → i ≠ b → st'.box.get i = st.box.get i) := by
 refine Qb (NY.no _ rfl rfl rfl _ _) Tryz.func31 rfl (by kernel_rfl) fun R hR K gr gn => ?_
 generalize hfr : JC gl [.ptr b 0, .int .i64 (N : Int)] = fr
 have hF : Fs gl [(0, .ptr b 0), (1, .int .i64 (N : Int))] fr := by subst hfr; simp [Fs]
 simp only [Fs] at hF
 clear hfr
 obtain ⟨v, q1, hcc, hq1⟩ := Says.use (Jdt gl st b hb)
 have c1 : q1.ctr = st.ctr := by rw [hq1, JgX]
 have hb1 : q1.box.get b = some (.cells [.ptr b 0, .nils] 68 true (some 0)) := by rw [hq1, QD, if_pos rfl]
 have ho1 : ∀ i, i ≠ b → q1.box.get i = st.box.get i := fun i hi => by rw [hq1, QD, if_neg hi]
 clear hq1
 have l1 := Jf (P := Tryz.prog) (off := 1) a91 z91 hb1 rfl
 obtain ⟨v2, q2, hg, hbl, hc2, ho2⟩ := Says.use (JnA gl { ctr := q1.ctr + 13, box := q1.box } b N h0 hN (by show b < q1.ctr + 13; omega) hb1)
 have u91' := u91
 refine Ks_ (Ka_ (gs := [none, none]) fun K1 gK => ?_)
 simp (disch := omega) [hF, hcc]
 refine gK _ _ (Ks_ (Ks_ (Ka_ (gs := [none, none]) fun K1 gK => ?_)))
 simp (disch := omega) [hF]
 refine gK _ _ (Kf_ (by simp (disch := omega) []) (Kk_ (Ks_ (Ki_ (b := [0, 1, 3, 7, 15, 0, 32, 96, 224, 480, 1023, 0, 4095]) fun K1 gK => ?_))))
 simp (disch := omega) [hF, fb1, l1, u91', QU]
 refine gK _ _ (Kt_ (by simp (disch := omega) [h0]) (Ka_ (gs := [none, none, none]) fun K1 gK => ?_))
 simp (disch := omega) [hF, hg, h0]
 refine gK _ _ (gn _ _ ?_)
 simp [JW, Tryz.f31, hF]
 refine hR _ _ ?_
 exact ⟨hbl, by have : q1.ctr + 13 ≤ q2.ctr := hc2; omega, fun i hi hib => by rw [ho2 i (by show i < q1.ctr + 13; omega) hib]; exact ho1 i hib⟩
set_option maxRecDepth 100000 in
theorem JfP (gl : Gl) (st : St) (lo b : Nat) (l : List UInt8) (s : S) (hb : Bld lo b st l) (hl : l.length + s.n ≤ 1000000000000) :
  Says Tryz.prog gl 32 [.ptr b 0, .str s] st (fun _v st' => Bld lo b st' (l ++ s.toList) ∧ Low lo st st') := by
 refine Qb (NY.no _ rfl rfl rfl _ _) Tryz.func32 rfl (by kernel_rfl) fun R hR K gr gn => ?_
 generalize hfr : JC gl [.ptr b 0, .str s] = fr
 have hF : Fs gl [(0, .ptr b 0), (1, .str s)] fr := by subst hfr; simp [Fs]
 simp only [Fs] at hF
 clear hfr
 obtain ⟨y, b1, hlo, hbc, hm, hv⟩ := hb
 obtain ⟨v, q1, hcc, hq1⟩ := Says.use (Jd0 gl st b y b1)
 rw [show q1 = st from hq1] at hcc
 clear hq1
 have l1 := Jf (P := Tryz.prog) (off := 1) a91 z91 b1 rfl
 obtain ⟨z, q2, ha, hl2, hm2, hv2, ho2⟩ := Jje hm (JfN st s) (by omega) (by rw [J5, J5, S.len]; exact hl)
 have b2 := (ho2 b hbc hv).trans b1
 have hvz : ¬ vid z b := fun h => by
  rcases hv2 b h with h | h
  ·exact hv h
  ·omega
 have w := QB (P := Tryz.prog) (st := q2) (t := 66) (off := 1) (v := z) z91 b2 (by simp) hm2.sim
 have ls := QC Tryz.underlying9 (s := s)
 refine Ks_ (Ka_ (gs := [none, none]) fun K1 gK => ?_)
 simp (disch := omega) []
 refine gK _ _ (Ks_ (Ka_ (gs := [none, none]) fun K1 gK => ?_))
 simp (disch := omega) [hF, hcc]
 refine gK _ _ (Ks_ (Ka_ (gs := [none, none, none, none, none, none, none, none, none, none]) fun K1 gK => ?_))
 simp (disch := omega) [hF, fb1, l1, ha, w, Tryz.underlying9]
 refine gK _ _ (Ks_ (Ka_ (gs := [none, none, none, none]) fun K1 gK => ?_))
 simp (disch := omega) [hF, ls]
 refine gK _ _ (Kq_ (gr _ _ ?_))
 simp [JW, Tryz.f32, hF]
 refine hR _ _ ?_
 have hbb : (q2.put b (.cells [.ptr b 0, z] 68 true (some 0))).box.get b = some (.cells [.ptr b 0, z] 68 true (some 0)) := by rw [QD, if_pos rfl]
 refine ⟨⟨z, hbb, hlo, by have := hl2.ctr; show b < q2.ctr; omega, ?_, hvz⟩, ⟨hl2.ctr, fun i hi => ?_⟩⟩
 ·rw [Jcy]
  exact hm2.stab (Nat.le_refl _) fun i hi => by
   show (q2.put b _).box.get i = _
   rw [QD, if_neg (by rintro rfl; exact hvz hi)]
 ·show (q2.put b _).box.get i = _
  rw [QD, if_neg (by omega)]; exact hl2.box i hi
set_option maxRecDepth 100000 in
theorem JgJ (gl : Gl) (st : St) (lo b : Nat) (l : List UInt8) (hb : Bld lo b st l) (hl : l.length ≤ 1000000000000) (hne : l ≠ []) :
  Says Tryz.prog gl 33 [.ptr b 0] st (fun v st' => (∃ t : S, v = .str t ∧ t.toList = l) ∧ Low lo st st') := by
 refine Qb (NY.no _ rfl rfl rfl _ _) Tryz.func33 rfl (by kernel_rfl) fun R hR K gr gn => ?_
 generalize hfr : JC gl [.ptr b 0] = fr
 have hF : Fs gl [(0, .ptr b 0)] fr := by subst hfr; simp [Fs]
 simp only [Fs] at hF
 clear hfr
 obtain ⟨y, b1, hlo, hbc, hm, hv⟩ := hb
 have l1 := Jf (P := Tryz.prog) (off := 1) a91 z91 b1 rfl
 have ly := hm.len u91
 rw [J5] at ly
 obtain ⟨m, hlm⟩ : ∃ m, l.length = m + 1 := ⟨l.length - 1, by have := List.length_pos_iff.2 hne; omega⟩
 obtain ⟨id, cap, q1, rfl, hu, hlow⟩ := JpS hm hlm hl
 have vq : veq 1000000000 (.ms id 0 (m + 1) 1 cap) (.ms id 0 (m + 1) 1 cap) = true := Jag _ (Nat.le_of_ble_eq_true rfl)
 refine Ks_ (Ka_ (gs := [none]) fun K1 gK => ?_)
 simp (disch := omega) []
 refine gK _ _ (Ks_ (Ki_ (b := [0, 1, 3, 7, 15, 0, 32, 96, 224, 480, 1023, 2047]) fun K1 gK => ?_))
 simp (disch := omega) [hF, fb1, l1, ly, vq, hu]
 refine gK _ _ (Kq_ (gr _ _ ?_))
 simp [JW, Tryz.f33, hF]
 refine hR _ _ ?_
 exact ⟨⟨_, rfl, S.toList_ofList l⟩, hlow⟩
end Go.Vm
