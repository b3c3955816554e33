/- Indexes, parts, loads, lengths. -/
import Derived.Test.YtlmmgpmioaecnaaGreatDoorVmVal2
namespace Go.Vm
open Go Go.RowKit
theorem Jdk {P : Program} {t : TypeId} {b : Bool} (h : QO P t = some b) (w : World) : (isAgg t).run P w = .ok b w := by
 unfold QO at h
 split at h
 ·rename_i fs hu; simp at h; subst h; simp [isAgg, run_underlying hu]
 ·rename_i n e hu; simp at h; subst h; simp [isAgg, run_underlying hu]
 ·rename_i d hu1 hu2 hu
  simp at h; subst h
  cases d <;> simp_all [isAgg, run_underlying hu]
 ·simp at h
theorem Rs.get' {g : Gh} {vs : List V} {cs : List Value} (h : Rs g vs cs) {i : Nat} {v : V} (hv : vs[i]? = some v) : ∃ c, cs[i]? = some c ∧ R g v c := h.get i v hv
theorem JgS {P : Program} {g : Gh} {t : TypeId} {cs : List V} {off : Nat} {v : V} (h : Q5 P t cs off = some v) {l : List Value} (hr : Rs g cs l) (w : World) :
  ∃ c, (part t ⟨l⟩ off).run P w = .ok c w ∧ R g v c := by
 unfold Q5 at h
 split at h
 ·rename_i n h1 h2
  split at h
  ·simp only [Option.some.injEq] at h; subst h
   refine ⟨.agg ⟨(l.drop off).take n⟩, ?_, .agg _ _ (hr.sub _ _)⟩
   simp [part, Jdk h1, JF h2]
  ·simp at h
 ·rename_i n h1 h2
  obtain ⟨c, hc, hv⟩ := hr.get' h
  refine ⟨c, ?_, hv⟩
  simp [part, Jdk h1, hc]
 ·simp at h
theorem Jf5 {P : Program} {g : Gh} {t : TypeId} {cs : List V} {off : Nat} {v : V} (h : Q5 P t cs off = some v) {l : List Value} (hr : Rs g cs l) {w : World} {b o : Nat}
  (hw : ∀ i c, l[i]? = some c → w.cell? ⟨b, o + i, none⟩ = some c) : ∃ c, (loadVar t ⟨b, o + off, none⟩).run P w = .ok c w ∧ R g v c := by
 unfold Q5 at h
 split at h
 ·rename_i n h1 h2
  split at h
  ·rename_i hle
   have hle := Nat.le_of_ble_eq_true hle
   simp only [Option.some.injEq] at h; subst h
   have hlen := hr.len
   refine ⟨.agg ⟨(l.drop off).take n⟩, ?_, .agg _ _ (hr.sub _ _)⟩
   have hl : ((l.drop off).take n).length = n := by
    rw [List.length_take, List.length_drop]; omega
   have := run_loadCells_list (P := P) (w := w) ⟨b, o + off, none⟩ ((l.drop off).take n) (fun j c hj => by
    rw [List.getElem?_take] at hj
    split at hj
    ·rw [List.getElem?_drop] at hj
     rw [Addr.add_lit, Nat.add_assoc]
     exact hw _ _ hj
    ·simp at hj)
   rw [hl] at this
   simp [loadVar, Jdk h1, JF h2, this]
  ·simp at h
 ·rename_i n h1 h2
  obtain ⟨c, hc, hv⟩ := hr.get' h
  refine ⟨c, ?_, hv⟩
  simp [loadVar, Jdk h1, hw _ _ hc]
 ·simp at h
theorem Jm9 {α : Type} (pre mid rest : List α) {o : Nat} (ho : pre.length = o) {j : Nat} {c : α} (hj : mid[j]? = some c) : (pre ++ mid ++ rest)[o + j]? = some c := by
 have hl := (List.getElem?_eq_some_iff.1 hj).1
 rw [List.append_assoc, List.getElem?_append_right (by omega), ho, Nat.add_sub_cancel_left, List.getElem?_append_left hl]
 exact hj
theorem Inv.cells {base : Nat} {g : Gh} {s : SS} {w : World} (hi : Inv base g s w) {i : Nat} {cs : List V} {e : TypeId} {fl : Bool} {fz : Option Nat} (h : s.box i = some (.cells cs e fl fz)) {b o bs : Nat} (hb : g.box i = some (b, o, bs)) :
  ∃ pre mid rest f, w.heap[b]? = some (.cells ⟨pre ++ mid ++ rest⟩ e f) ∧ pre.length = o ∧ Rs g cs mid ∧ (pre ++ mid ++ rest).length = bs ∧ (fl = true → o = 0 ∧ rest = []) ∧ fzR fz o bs f ∧
   ∀ j c, mid[j]? = some c → w.cell? ⟨b, o + j, none⟩ = some c := by
 obtain ⟨b', o', bs', m, h1, h2, h3⟩ := hi.box i _ h
 have e1 : (b', o', bs') = (b, o, bs) := by rw [h1] at hb; simpa using hb
 simp only [Prod.mk.injEq] at e1
 obtain ⟨rfl, rfl, rfl⟩ := e1
 cases h3 with
 | cells _ _ _ _ pre mid rest f ho hr hs hf hz =>
  refine ⟨pre, mid, rest, f, h2, ho, hr, hs, hf, hz, fun j c hj => ?_⟩
  have := Jm9 pre mid rest ho hj
  simp [World.cell?, h2] at this ⊢
  exact this
theorem JgT {P : Program} {base : Nat} {g : Gh} {st : St} {w : World} (hi : Inv base g st.abs w) {t : TypeId} {x v : V} (h : JB P st t x = some v) {c : Value} (hx : R g x c) :
  ∃ d, (Instr.loadAt t c).run P w = .ok d w ∧ R g v d := by
 unfold JB at h
 split at h
 ·rename_i cs
  cases hx with
  | cp _ b o l hr hp =>
   obtain ⟨d, h1, h2⟩ := Jf5 h hr (w := w) (b := b) (o := o) (fun i c hc => hi.pub _ _ _ (hp i c hc))
   exact ⟨d, by simpa [Instr.loadAt, Instr.sureAddr] using h1, h2⟩
 ·rename_i id off
  cases hx with
  | ptr _ _ b o bs hb =>
   split at h
   ·rename_i cs e fl fz hcs
    obtain ⟨pre, mid, rest, f, _, _, hr, _, _, _, hw⟩ := hi.cells (i := id) hcs hb
    obtain ⟨d, h1, h2⟩ := Jf5 h hr (w := w) (b := b) (o := o) hw
    exact ⟨d, by simpa [Instr.loadAt, Instr.sureAddr] using h1, h2⟩
   ·simp at h
 ·simp at h
theorem Jf6 {P : Program} {g : Gh} {t : TypeId} {x i v : V} (h : Jd P t x i = some v) {cx ci : Value} (hx : R g x cx) (hi : R g i ci) (w : World) :
  ∃ c, (Instr.indexAt t cx ci).run P w = .ok c w ∧ R g v c := by
 unfold Jd at h
 split at h
 ·rename_i n cs tl e i hu hn
  obtain ⟨k, rfl⟩ := Qs hn hi
  split at h
  ·rename_i z hz hlt
   have hlt : i < n := by simpa [Nat.blt_eq] using hlt
   simp only [Option.some.injEq] at h; subst h
   cases hx with
   | sl _ _ _ b o cap l hr hp hc ht =>
    refine ⟨.pointer (some ⟨b, o + i * z, none⟩), ?_, .cp _ b _ (l.drop (i * z)) (hr.drop _) (hp.drop _)⟩
    have h0 : (0 : Int) ≤ (i : Int) ∧ (i : Int) < (n : Int) := ⟨by omega, by omega⟩
    simp [Instr.indexAt, asIntOf, run_underlying hu, h0, JF hz, Addr.add_lit, hlt]
   | sl0 _ a cap _ => exact absurd hlt (Nat.not_lt_zero _)
  ·simp at h
 ·rename_i id off n z cap e i hu hn
  obtain ⟨k, rfl⟩ := Qs hn hi
  split at h
  ·rename_i z' hz hlt
   split at h
   rotate_left
   ·simp at h
   rename_i hbz
   have hbz := Nat.eq_of_beq_eq_true hbz
   subst hbz
   have hlt : i < n := by simpa [Nat.blt_eq] using hlt
   simp only [Option.some.injEq] at h; subst h
   cases hx with
   | ms _ _ _ _ _ b o bs co c hb hc ho hk =>
    have hco : co = o + off := by rcases ho with ho | ho <;> omega
    subst hco
    refine ⟨.pointer (some ⟨b, o + (off + i * z'), none⟩), ?_, .ptr _ _ b o bs hb⟩
    have h0 : (0 : Int) ≤ (i : Int) ∧ (i : Int) < (n : Int) := ⟨by omega, by omega⟩
    simp [Instr.indexAt, asIntOf, run_underlying hu, h0, JF hz, Addr.add_lit, hlt, Nat.add_assoc]
  ·simp at h
 ·rename_i id off n e i hu hn
  obtain ⟨k, rfl⟩ := Qs hn hi
  split at h
  ·rename_i z hz hlt
   have hlt : i < n := by simpa [Nat.blt_eq] using hlt
   simp only [Option.some.injEq] at h; subst h
   cases hx with
   | ptr _ _ b o bs hb =>
    refine ⟨.pointer (some ⟨b, o + (off + i * z), none⟩), ?_, .ptr _ _ b o bs hb⟩
    have h0 : (0 : Int) ≤ (i : Int) ∧ (i : Int) < (n : Int) := ⟨by omega, by omega⟩
    simp [Instr.indexAt, asIntOf, run_underlying hu, h0, JF hz, Addr.add_lit, Instr.sureAddr, hlt, Nat.add_assoc]
  ·simp at h
 ·rename_i cs n e i hu hn
  obtain ⟨k, rfl⟩ := Qs hn hi
  split at h
  ·rename_i z hz hlt
   have hlt : i < n := by simpa [Nat.blt_eq] using hlt
   simp only [Option.some.injEq] at h; subst h
   cases hx with
   | cp _ b o l hr hp =>
    refine ⟨.pointer (some ⟨b, o + i * z, none⟩), ?_, .cp _ b _ (l.drop (i * z)) (hr.drop _) (hp.drop _)⟩
    have h0 : (0 : Int) ≤ (i : Int) ∧ (i : Int) < (n : Int) := ⟨by omega, by omega⟩
    simp [Instr.indexAt, asIntOf, run_underlying hu, h0, JF hz, Addr.add_lit, Instr.sureAddr, hlt]
  ·simp at h
 ·simp at h
theorem JjI {P : Program} {g : Gh} {t : TypeId} {x i v : V} (h : JbN P t x i = some v) {cx ci : Value} (hx : R g x cx) (hi : R g i ci) (w : World) :
  ∃ c, (Instr.index t cx ci).run P w = .ok c w ∧ R g v c := by
 unfold JbN at h
 split at h
 ·rename_i s i hu hn
  obtain ⟨k, rfl⟩ := Qs hn hi
  cases hx
  split at h
  ·rename_i hb
   have hb : i < s.n := by simpa [Nat.blt_eq] using hb
   have hb := s.toList_at hb
   simp only [Option.some.injEq] at h; subst h
   refine ⟨.int .u8 (.ofNat (s.at i)), ?_, .int _ _⟩
   have hb' : (⟨⟨s.toList⟩⟩ : ByteArray)[i]? = some (UInt8.ofNat (s.at i)) := by
    obtain ⟨hlt, he⟩ := List.getElem?_eq_some_iff.1 hb
    have h2 : i < (⟨⟨s.toList⟩⟩ : ByteArray).size := hlt
    rw [getElem?_pos _ i h2]
    congr 1
   have hm : (s.at i) % 256 = s.at i := Nat.mod_eq_of_lt (s.at_lt i)
   simp [Instr.index, asIntOf, run_underlying hu, hb', hm]
  ·simp at h
 ·rename_i cs n e i hu hn
  obtain ⟨k, rfl⟩ := Qs hn hi
  split at h
  ·rename_i z hz hlt
   have hlt : i < n := by simpa [Nat.blt_eq] using hlt
   cases hx with
   | agg _ l hr =>
    obtain ⟨c, h1, h2⟩ := JgS h hr w
    refine ⟨c, ?_, h2⟩
    simp [Instr.index, asIntOf, run_underlying hu, hlt, JF hz, h1]
  ·simp at h
 ·simp at h
theorem Jna {P : Program} {g : Gh} {t : TypeId} {x v : V} (h : QU P t x = some v) {cx : Value} (hx : R g x cx) (ts : Array TypeId) (ht : ts[0]? = some t) (ty : TypeId) (w : World) :
    ∃ c, (Builtin.len_ ts ty #[cx]).run P w = .ok c w ∧ R g v c := by
  unfold QU at h
  split at h
  · rename_i s hu; cases hx
    simp only [Option.some.injEq] at h; subst h
    refine ⟨_, ?_, .int _ _⟩
    have e : (⟨⟨s.toList⟩⟩ : ByteArray).size = s.n := s.len
    simp [Builtin.len_, ht, run_underlying hu, goInt, e]
  · rename_i e hu; cases hx
    simp only [Option.some.injEq] at h; subst h
    refine ⟨_, ?_, .int _ _⟩
    simp [Builtin.len_, ht, run_underlying hu, goInt]
  · rename_i n cs tl e hu; cases hx <;>
    (simp only [Option.some.injEq] at h; subst h
     refine ⟨_, ?_, .int _ _⟩
     simp [Builtin.len_, ht, run_underlying hu, goInt])
  · rename_i n z cap e hu; cases hx
    simp only [Option.some.injEq] at h; subst h
    refine ⟨_, ?_, .int _ _⟩
    simp [Builtin.len_, ht, run_underlying hu, goInt]
  · rename_i n e hu
    simp only [Option.some.injEq] at h; subst h
    refine ⟨.int .i64 n, ?_, .int _ _⟩
    simp [Builtin.len_, ht, run_underlying hu, goInt]
  · simp at h
theorem Jf7 {P : Program} {g : Gh} {s : TypeId} {x v : V} {f : Nat} (h : JD P s x f = some v) {cx : Value} (hx : R g x cx) (w : World) :
  ∃ c, (Instr.fieldAt s cx f).run P w = .ok c w ∧ R g v c := by
 unfold JD at h
 split at h
 ·rename_i fs hu
  split at h
  ·rename_i fd hf
   split at h
   ·rename_i z hz
    split at h
    ·rename_i id off
     cases hx with
     | ptr _ _ b o bs hb =>
      simp only [Option.some.injEq] at h; subst h
      refine ⟨_, ?_, .ptr _ _ b o bs hb⟩
      simp [Instr.fieldAt, run_underlying hu, hf, Instr.sureAddr, fieldPlace, JF hz, Addr.add_lit, Nat.add_assoc]
    ·rename_i cs
     cases hx with
     | cp _ b o l hr hp =>
      simp only [Option.some.injEq] at h; subst h
      refine ⟨_, ?_, .cp _ b (o + fd.offset) (l.drop fd.offset) (hr.drop _) (hp.drop _)⟩
      simp [Instr.fieldAt, run_underlying hu, hf, Instr.sureAddr, fieldPlace, JF hz, Addr.add_lit]
    ·simp at h
   ·simp at h
  ·simp at h
 ·simp at h
theorem JjJ {P : Program} {g : Gh} {s : TypeId} {x v : V} {f : Nat} (h : JiV P s x f = some v) {cx : Value} (hx : R g x cx) (w : World) :
  ∃ c, (Instr.field s cx f).run P w = .ok c w ∧ R g v c := by
 unfold JiV at h
 split at h
 ·rename_i cs fs hu
  split at h
  ·rename_i fd hf
   cases hx with
   | agg _ l hr =>
    obtain ⟨c, h1, h2⟩ := JgS h hr w
    refine ⟨c, ?_, h2⟩
    simp [Instr.field, run_underlying hu, hf, asAgg, h1]
  ·simp at h
 ·simp at h
end Go.Vm
