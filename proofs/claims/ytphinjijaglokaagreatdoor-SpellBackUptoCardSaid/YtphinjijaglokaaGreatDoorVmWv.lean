/- Slices of strings, however they lie; what stays as it was. -/
import Derived.Test.YtphinjijaglokaaGreatDoorVmWs
namespace Go.Vm
open Go
structure Keep (st st' : St) : Prop where
 ctr : st.ctr ≤ st'.ctr
 box : ∀ id, id < st.ctr → st'.box.get id = st.box.get id
theorem Keep.refl (st : St) : Keep st st := ⟨Nat.le_refl _, fun _ _ => rfl⟩
theorem Keep.trans {a b c : St} (h : Keep a b) (k : Keep b c) : Keep a c := ⟨Nat.le_trans h.ctr k.ctr, fun id hi => (k.box id (Nat.lt_of_lt_of_le hi h.ctr)).trans (h.box id hi)⟩
theorem Keep.put {a b : St} (h : Keep a b) {id : Nat} (hid : a.ctr ≤ id) (x : Bx) : Keep a { b with box := b.box.put id x } :=
 ⟨h.ctr, fun i hi => by rw [Tr.get_put, if_neg (by omega)]; exact h.box i hi⟩
theorem Keep.new {a b : St} (h : Keep a b) (x : Bx) : Keep a { ctr := b.ctr + 1, box := b.box.put b.ctr x } :=
 ⟨Nat.le_succ_of_le h.ctr, fun i hi => by have := h.ctr; rw [Tr.get_put, if_neg (by omega)]; exact h.box i hi⟩
inductive Vw (st : St) : V → List S → Prop
 | nils : Vw st .nils []
 | sl (l : List S) (ex : Bool) : Vw st (.sl l.length (l.map .str) ex) l
 | ms (id off : Nat) (cap : Option Nat) (cs : List V) (e : TypeId) (fl : Bool) (fz : Option Nat) (l : List S) (hb : st.box.get id = some (.cells cs e fl fz)) (hl : ∀ i, i < l.length → cs[off + i]? = some (.str (l.getD i ⟨0, 0⟩)))
   (hlt : off + l.length ≤ cs.length) (hid : id < st.ctr) (hcap : JgU l.length l.length cap = true) : Vw st (.ms id off l.length 1 cap) l
theorem Vw.keep {st st' : St} (h : Keep st st') {x : V} {l : List S} (hv : Vw st x l) : Vw st' x l := by
 cases hv with
 | nils => exact .nils
 | sl l ex => exact .sl l ex
 | ms id off cap cs e fl fz l hb hl hlt hid hcap => exact .ms id off cap cs e fl fz l (by rw [h.box id hid]; exact hb) hl hlt (Nat.lt_of_lt_of_le hid h.ctr) hcap
variable {P : Program} {T e : TypeId}
theorem Vw.len (hT : P.underlying T = some (.slice e)) {st : St} {x : V} {l : List S} (hv : Vw st x l) : JaS P T x = some (.int .i64 ((l.length : Nat) : Int)) := by
 cases hv <;> simp [JaS, hT]
theorem Qx {P : Program} {st : St} {T : TypeId} {z : Nat} {id off : Nat} {cs : List V} {e : TypeId} {fl : Bool} {fz : Option Nat} {v : V} (ha : QS P T = some false) (hz : Qc P T = some z) (hb : st.box.get id = some (.cells cs e fl fz)) (hv : cs[off]? = some v) :
  Qo P st T (.ptr id off) = some v := by
 simp only [Qo, hb, Jbe, ha, hz, hv]
end Go.Vm
