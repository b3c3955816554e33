/- A slice of strings of one's own that grows. -/
import Derived.Test.YtajfpccgknoafaaRowD
import Derived.Test.YtajfpccgknoafaaChecked
namespace Go.Vm
open Go Go.Proofs

/-- a slice of strings in memory of its own, from a number on -/
inductive Ow (lo : Nat) (st : St) : V → List S → Prop
  | nils : Ow lo st .nils []
  | ms (id : Nat) (cap : Option Nat) (fl : Bool) (l : List S) (hb : st.box.get id = some (.cells (l.map .str) 9 fl (some 0))) (h1 : lo ≤ id) (h2 : id < st.ctr) (hc : cap = none ∨ cap = some l.length) : Ow lo st (.ms id 0 l.length 1 cap) l

theorem Ow.vw {lo : Nat} {st : St} {x : V} {l : List S} (h : Ow lo st x l) : Vw st x l := by
  cases h with
  | nils => exact .nils
  | ms id cap fl l hb h1 h2 hc =>
    refine .ms id 0 cap (l.map .str) 9 fl (some 0) l hb (fun i hi => ?_) (by simp) h2 ?_
    · simp [List.getElem?_map, List.getD_eq_getElem?_getD, hi]
    · rcases hc with rfl | rfl <;> simp [capLe, ble_self]

theorem Ow.keep {lo : Nat} {st st' : St} (h : Keep st st') {x : V} {l : List S} (hv : Ow lo st x l) : Ow lo st' x l := by
  cases hv with
  | nils => exact .nils
  | ms id cap fl l hb h1 h2 hc => exact .ms id cap fl l (by rw [h.box id h2]; exact hb) h1 (Nat.lt_of_lt_of_le h2 h.ctr) hc

theorem Ow.one {lo : Nat} {st : St} {x : V} {l : List S} (h : Ow lo st x l) : oneC x = true := by cases h <;> rfl

/-- []string{..} -/
theorem Ow.build (st : St) (l : List S) (cap : Nat) (hc : cap = l.length) : Ow st.ctr { ctr := st.ctr + 1, box := st.box.put st.ctr (.cells (l.map .str) 9 true (some 0)) } (.ms st.ctr 0 l.length 1 (some cap)) l := by
  subst hc
  exact .ms st.ctr _ true l (by simp [Tr.get_put]) (Nat.le_refl _) (Nat.lt_succ_self _) (.inr rfl)

theorem Ow.weaken {lo lo' : Nat} (h : lo' ≤ lo) {st : St} {x : V} {l : List S} (hv : Ow lo st x l) : Ow lo' st x l := by
  cases hv with
  | nils => exact .nils
  | ms id cap fl l hb h1 h2 hc => exact .ms id cap fl l hb (Nat.le_trans h h1) h2 hc

/-- append(x, y...): what is below 'lo' stays -/
theorem Ow.app {lo : Nat} {st : St} {x y : V} {l m : List S} (hlo : lo ≤ st.ctr) (hx : Ow lo st x l) (hy : Vw st y m) (hl : l.length + m.length < 1000000) :
    ∃ z st', vappend Try.prog st 22 x y = some (z, st') ∧ Ow lo st' z (l ++ m) ∧ st.ctr ≤ st'.ctr ∧ (∀ i, i < lo → st'.box.get i = st.box.get i) ∧ (∀ i, i < st.ctr → (∀ c, x ≠ .ms i 0 l.length 1 c) → st'.box.get i = st.box.get i) ∧ (m = [] → z = x) ∧ (z = x ∨ Ow st.ctr st' z (l ++ m)) := by
  have hu : Try.prog.underlying 22 = some (.slice 9) := Try.underlying22
  have i9 : Try.prog.info? 9 = some Try.t9 := by kernel_rfl
  have zv9 : zeroT Try.prog 9 = some (.str ⟨0, 0⟩) := by kernel_rfl
  have hsrc : srcCells st 1 y = some (m.map .str, m.length) := hy.src
  have hold : sliceCells st 1 x = some (l.map .str, l.length) := hx.vw.cells
  by_cases hm : m = []
  · subst hm
    refine ⟨x, st, ?_, by simpa using hx, Nat.le_refl _, fun _ _ => rfl, fun _ _ _ => rfl, fun _ => rfl, .inl rfl⟩
    have t2 : Try.t9.size = 1 := rfl
    simp only [vappend, hu, i9, zv9, t2, hsrc, hold]
    rfl
  · have hm0 : Nat.beq m.length 0 = false := by
      cases m with
      | nil => exact absurd rfl hm
      | cons a b => rfl
    have e1 : Nat.ble ((l.length + m.length) * Try.t9.bytes) maxBytes = true := Nat.ble_eq_true_of_le (by show (l.length + m.length) * 16 ≤ maxBytes; simp only [maxBytes]; omega)
    have e2 : Nat.ble (l.length + m.length) maxBytes = true := Nat.ble_eq_true_of_le (by simp only [maxBytes]; omega)
    have e3 : (m.map V.str).all oneC = true := by simp [oneC]
    have e4 : Nat.beq (V.str ⟨0, 0⟩).cells.length 1 = true := rfl
    have e5 : Nat.beq 1 0 = false := rfl
    have t2 : Try.t9.size = 1 := rfl
    have fresh : ∀ (bx : Tr Bx), Ow st.ctr { ctr := st.ctr + 1, box := bx.put st.ctr (.cells (l.map .str ++ m.map .str) 9 false (some 0)) } (.ms st.ctr 0 (l.length + m.length) 1 none) (l ++ m) := fun bx => by
      have := Ow.ms (lo := st.ctr) (st := { ctr := st.ctr + 1, box := bx.put st.ctr (.cells ((l ++ m).map .str) 9 false (some 0)) }) st.ctr none false (l ++ m) (by simp [Tr.get_put]) (Nat.le_refl _) (Nat.lt_succ_self _) (.inl rfl)
      simpa using this
    cases hx with
    | nils =>
      refine ⟨.ms st.ctr 0 ([].length + m.length) 1 none, { ctr := st.ctr + 1, box := st.box.put st.ctr (.cells ([].map .str ++ m.map .str) 9 false (some 0)) }, ?_, (fresh st.box).weaken hlo, Nat.le_succ _, fun i hi => by rw [Tr.get_put, if_neg (by omega)], fun i hi _ => by rw [Tr.get_put, if_neg (by omega)], fun h => absurd h hm, .inr (fresh st.box)⟩
      simp only [vappend, hu, i9, zv9, t2, hsrc, hold, hm0, e1, e2, e3, e4, e5]
      rfl
    | ms id cap fl l hb h1 h2 hc =>
      rcases hc with rfl | rfl
      · have e6 : Nat.ble (0 + (l.length + m.length) * 1) (l.map V.str).length = false := by
          cases h : Nat.ble (0 + (l.length + m.length) * 1) (l.map V.str).length with
          | false => rfl
          | true =>
            have := Nat.le_of_ble_eq_true h
            have hml : 0 < m.length := List.length_pos_iff.2 hm
            simp at this; omega
        have e7 : Nat.ble 0 (0 + l.length * 1) = true := Nat.ble_eq_true_of_le (Nat.zero_le _)
        refine ⟨.ms st.ctr 0 (l.length + m.length) 1 none, { ctr := st.ctr + 1, box := (st.box.del id).put st.ctr (.cells (l.map .str ++ m.map .str) 9 false (some 0)) }, ?_, (fresh _).weaken hlo, Nat.le_succ _, fun i hi => by rw [Tr.get_put, if_neg (by omega), Tr.get_del, if_neg (by omega)], fun i hi hne => ?_, fun h => absurd h hm, .inr (fresh _)⟩
        · simp only [vappend, hu, i9, zv9, t2, hsrc, hold, hm0, e1, e2, e3, e4, e5, hb, roomOf, e6, fzOk, e7, Nat.beq_refl, Bool.and_self]
          simp [fzSub]
        · have : i ≠ id := fun h => by subst h; exact hne _ rfl
          show ((st.box.del id).put st.ctr _).get i = _
          rw [Tr.get_put, if_neg (by omega), Tr.get_del, if_neg this]
      · have e6 : Nat.ble (l.length + m.length) l.length = false := by
          cases h : Nat.ble (l.length + m.length) l.length with
          | false => rfl
          | true =>
            have := Nat.le_of_ble_eq_true h
            have hml : 0 < m.length := List.length_pos_iff.2 hm
            omega
        refine ⟨.ms st.ctr 0 (l.length + m.length) 1 none, { ctr := st.ctr + 1, box := st.box.put st.ctr (.cells (l.map .str ++ m.map .str) 9 false (some 0)) }, ?_, (fresh _).weaken hlo, Nat.le_succ _, fun i hi => by rw [Tr.get_put, if_neg (by omega)], fun i hi _ => by rw [Tr.get_put, if_neg (by omega)], fun h => absurd h hm, .inr (fresh _)⟩
        simp only [vappend, hu, i9, zv9, t2, hsrc, hold, hm0, e1, e2, e3, e4, e5, hb, roomOf, e6, Nat.beq_refl, Bool.and_self]

end Go.Vm
