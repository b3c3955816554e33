/- Slices of strings, however they lie; what stays as it was. -/
import Derived.Test.YtlmmgpmioaecnaaGreatDoorVmWs
namespace Go.Vm
open Go
structure Keep (st st' : St) : Prop where
 ctr : st.ctr ≤ st'.ctr
 box : ∀ id, id < st.ctr → st'.box.get id = st.box.get id
theorem Keep.refl (st : St) : Keep st st := ⟨Nat.le_refl _, fun _ _ => rfl⟩
theorem Keep.trans {a b c : St} (h : Keep a b) (k : Keep b c) : Keep a c := ⟨Nat.le_trans h.ctr k.ctr, fun id hi => (k.box id (Nat.lt_of_lt_of_le hi h.ctr)).trans (h.box id hi)⟩
theorem Keep.put {a b : St} (h : Keep a b) {id : Nat} (hid : a.ctr ≤ id) (x : Bx) : Keep a { b with box := b.box.put id x } :=
 ⟨h.ctr, fun i hi => by rw [Tr.get_put, if_neg (by omega)]; exact h.box i hi⟩
theorem Keep.new {a b : St} (h : Keep a b) (x : Bx) : Keep a { ctr := b.ctr + 1, box := b.box.put b.ctr x } :=
 ⟨Nat.le_succ_of_le h.ctr, fun i hi => by have := h.ctr; rw [Tr.get_put, if_neg (by omega)]; exact h.box i hi⟩
inductive Vw (st : St) : V → List S → Prop
 | nils : Vw st .nils []
 | sl (l : List S) (ex : Bool) : Vw st (.sl l.length (l.map .str) ex) l
 | ms (id off : Nat) (cap : Option Nat) (cs : List V) (e : TypeId) (fl : Bool) (fz : Option Nat) (l : List S) (hb : st.box.get id = some (.cells cs e fl fz)) (hl : ∀ i, i < l.length → cs[off + i]? = some (.str (l.getD i ⟨0, 0⟩)))
   (hlt : off + l.length ≤ cs.length) (hid : id < st.ctr) (hcap : JbM l.length l.length cap = true) : Vw st (.ms id off l.length 1 cap) l
theorem Vw.keep {st st' : St} (h : Keep st st') {x : V} {l : List S} (hv : Vw st x l) : Vw st' x l := by
 cases hv with
 | nils => exact .nils
 | sl l ex => exact .sl l ex
 | ms id off cap cs e fl fz l hb hl hlt hid hcap => exact .ms id off cap cs e fl fz l (by rw [h.box id hid]; exact hb) hl hlt (Nat.lt_of_lt_of_le hid h.ctr) hcap
variable {P : Program} {T e : TypeId}
theorem Vw.len (hT : P.underlying T = some (.slice e)) {st : St} {x : V} {l : List S} (hv : Vw st x l) : QU P T x = some (.int .i64 ((l.length : Nat) : Int)) := by
 cases hv <;> simp [QU, hT]
theorem Vw.get (hT : P.underlying T = some (.slice e)) (hz : JR P e = some 1) (ha : QO P e = some false) {st : St} {x : V} {l : List S} (hv : Vw st x l) {i : Nat} (hi : i < l.length) {k : IntKind} :
  ∃ a, Jd P T x (.int k (i : Int)) = some a ∧ JB P st e a = some (.str (l.getD i ⟨0, 0⟩)) := by
 have hb : Nat.blt i l.length = true := by rw [JaU]; exact decide_eq_true hi
 cases hv with
 | nils => simp at hi
 | sl l ex =>
  refine ⟨_, by simp only [Jd, hT, Qa, hz, hb]; rfl, ?_⟩
  simp only [JB, Q5, ha, hz, Nat.mul_one]
  simp [hi]
 | ms id off cap cs e' fl fz l hbx hl hlt hid hcap =>
  refine ⟨_, by simp only [Jd, hT, Qa, hz, hb]; rfl, ?_⟩
  simp only [JB, Q5, ha, hz, Nat.mul_one, hbx, hl i hi]
theorem Vw.tail (hT : P.underlying T = some (.slice e)) (hz : JR P e = some 1) {st : St} {x : V} {l : List S} (hv : Vw st x l) {lo : Nat} (hlo : lo ≤ l.length) {k : IntKind} :
  ∃ y, QA P T x (some (.int k (lo : Int))) none = some y ∧ Vw st y (l.drop lo) := by
 have hb : Nat.ble lo l.length = true := Nat.ble_eq_true_of_le hlo
 cases hv with
 | nils =>
  have : lo = 0 := by simpa using hlo
  subst this
  exact ⟨.nils, by simp only [QA, hT, hz]; rfl, .nils⟩
 | sl l ex =>
  refine ⟨_, by simp only [QA, hT, JH, Qa, hz, hb, Jaq, Nat.mul_one, List.length_map, Nat.beq_refl, Bool.and_true]; rfl, ?_⟩
  have h1 : sub (l.map V.str) lo (l.length - lo) = (l.drop lo).map V.str := by
   simp only [sub]
   rw [List.take_of_length_le (by simp)]
   exact (List.map_drop).symm
  have h2 : l.length - lo = (l.drop lo).length := by simp
  rw [h1, h2]
  exact .sl _ _
 | ms id off cap cs e' fl fz l hbx hl hlt hid hcap =>
  refine ⟨_, by simp only [QA, hT, JH, Qa, hz, hb, hcap, Nat.mul_one, Nat.beq_refl, Bool.and_true]; rfl, ?_⟩
  have h2 : l.length - lo = (l.drop lo).length := by simp
  rw [h2]
  refine .ms id (off + lo) _ cs e' fl fz (l.drop lo) hbx (fun i hi => ?_) (by simp; omega) hid ?_
  ·have hi' : lo + i < l.length := by simp at hi; omega
   rw [Nat.add_assoc, hl (lo + i) hi']
   congr 2
   simp [List.getD_eq_getElem?_getD]
  ·cases cap with
   | none => simp [JcR, JbM, Jaq]
   | some c =>
    simp only [JbM, JcR, List.length_drop] at hcap ⊢
    have := Nat.le_of_ble_eq_true hcap
    exact Nat.ble_eq_true_of_le (by show l.length - lo ≤ c - lo; omega)
theorem Jf {P : Program} {st : St} {T : TypeId} {z : Nat} {id off : Nat} {cs : List V} {e : TypeId} {fl : Bool} {fz : Option Nat} {v : V} (ha : QO P T = some false) (hz : JR P T = some z) (hb : st.box.get id = some (.cells cs e fl fz)) (hv : cs[off]? = some v) :
  JB P st T (.ptr id off) = some v := by
 simp only [JB, hb, Q5, ha, hz, hv]
end Go.Vm
