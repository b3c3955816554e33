/- The cells of a slice, conversions, structs and slices that are built. -/
import Derived.Test.YtlmmgpmioaecnaaGreatDoorVmVal3
namespace Go.Vm
open Go Go.RowKit
inductive Lies (w : World) : Value → Nat → List Value → Prop
 | none (c : Nat) : Lies w (.slice none 0 c) 0 []
 | some (a : Addr) (n c : Nat) (l : List Value) (h : ∀ j v, l[j]? = some v → w.cell? (a.add j) = some v) : Lies w (.slice (some a) n c) n l
theorem JcG {base : Nat} {g : Gh} {st : St} {w : World} (hi : Inv base g st.abs w) {z : Nat} {x : V} {cs : List V} {n : Nat} (h : JJ st z x = some (cs, n)) {c : Value} (hx : R g x c) :
  ∃ l, Rs g cs l ∧ l.length = n * z ∧ Lies w c n l := by
 unfold JJ at h
 split at h
 ·cases hx
  simp only [Option.some.injEq, Prod.mk.injEq] at h
  obtain ⟨rfl, rfl⟩ := h
  exact ⟨[], .nil, by simp, .none _⟩
 ·rename_i n' cs' ex
  split at h
  ·rename_i hb
   have hb := Nat.eq_of_beq_eq_true hb
   simp only [Option.some.injEq, Prod.mk.injEq] at h
   obtain ⟨rfl, rfl⟩ := h
   cases hx with
   | sl _ _ _ b o cap l hr hp hc ht =>
    exact ⟨l, hr, by rw [← hr.len, hb], .some _ _ _ _ (fun j v hj => by rw [Addr.add_lit]; exact hi.pub _ _ _ (hp j v hj))⟩
   | sl0 _ a cap _ => exact ⟨[], .nil, by simp, .some _ _ _ _ (fun j v hj => by simp at hj)⟩
  ·simp at h
 ·rename_i id off n' z' cap'
  split at h
  ·rename_i bs' e' fl fz hbs
   split at h
   ·rename_i hle
    have hle := Nat.le_of_ble_eq_true hle
    simp only [Option.some.injEq, Prod.mk.injEq] at h
    obtain ⟨rfl, rfl⟩ := h
    cases hx with
    | ms _ _ _ _ _ b o bs co c hb hc ho hk =>
     obtain ⟨pre, mid, rest, f, h1, h2, hr, _, _, _, h3⟩ := hi.cells (i := id) hbs hb
     have hlen := hr.len
     have hl : ((mid.drop off).take (n' * z)).length = n' * z := by
      rw [List.length_take, List.length_drop]; omega
     refine ⟨(mid.drop off).take (n' * z), hr.sub _ _, hl, .some _ _ _ _ (fun j v hj => ?_)⟩
     rcases ho with ho | ho
     ·have : n' = 0 := by omega
      subst this
      simp at hj
     ·rw [Addr.add_lit, ho]
      rw [List.getElem?_take] at hj
      split at hj
      ·rw [List.getElem?_drop] at hj
       rw [Nat.add_assoc]
       exact h3 _ _ hj
      ·simp at hj
   ·simp at h
  ·simp at h
 ·simp at h
theorem Jey {g : Gh} : ∀ (cs : List V) {bs : List UInt8} {l : List Value}, bytesOf cs = some bs → Rs g cs l → ∃ ns : List Int, l = ns.map (Value.int .u8) ∧ bs = ns.map fun n => UInt8.ofNat n.toNat
 | [], bs, l, h, hr => by cases hr; simp [bytesOf] at h; subst h; exact ⟨[], rfl, rfl⟩
 | v :: vs, bs, l, h, hr => by
  unfold bytesOf at h
  split at h
  ·rename_i e; simp at e
  ·rename_i n r e
   simp only [List.cons.injEq] at e
   obtain ⟨rfl, rfl⟩ := e
   split at h
   ·rename_i bs' hb
    simp only [Option.some.injEq] at h; subst h
    cases hr with
    | cons _ c _ cs hc hcs =>
     cases hc
     obtain ⟨ns, rfl, rfl⟩ := Jey vs hb hcs
     exact ⟨n :: ns, rfl, rfl⟩
   ·simp at h
  ·simp at h
theorem Jlv (ns : List Int) : ∀ (b : List UInt8), ns.foldl (fun (r : ByteArray) n => r.push (UInt8.ofNat n.toNat)) ⟨⟨b⟩⟩ = ⟨⟨b ++ ns.map fun n => UInt8.ofNat n.toNat⟩⟩ := by
 induction ns with
 | nil => intro b; simp
 | cons n ns ih =>
  intro b
  simp only [List.foldl_cons, List.map_cons]
  have : (⟨⟨b⟩⟩ : ByteArray).push (UInt8.ofNat n.toNat) = ⟨⟨b ++ [UInt8.ofNat n.toNat]⟩⟩ := by
   apply ByteArray.ext; simp [ByteArray.push]
  rw [this, ih]
  simp
theorem Jb2 {P : Program} {w : World} {b : Nat} {L : Array Value} {e : TypeId} {f : Nat × Nat} (h : w.heap[b]? = some (.cells L e f)) : (shape b).run P w = .ok (some (e, L.size)) w := by
 simp [shape, Sem.run, World.shape?, h]
theorem Jea {P : Program} {w : World} {b : Nat} {L : Array Value} {e : TypeId} {f : Nat × Nat} (h : w.heap[b]? = some (.cells L e f)) : (viewAt b).run P w = .ok none w := by
 simp [viewAt, Sem.run_bind, Jb2 h]
theorem Jeb {P : Program} {w : World} {b o : Nat} {L : Array Value} {e : TypeId} {f : Nat × Nat} (h : w.heap[b]? = some (.cells L e f)) : (Conv.seenAt ⟨b, o, none⟩).run P w = .ok ⟨b, o, none⟩ w := by
 simp [Conv.seenAt, Sem.run_bind, Jea h]
theorem Jgj {P : Program} {w : World} {b : Nat} {L : Array Value} {e : TypeId} {f : Nat × Nat} (h : w.heap[b]? = some (.cells L e f)) : (cellsIn b).run P w = .ok (some L.size) w := by
 simp [cellsIn, Sem.run_bind, Jb2 h]
theorem Jlw {P : Program} {base : Nat} {g : Gh} {st : St} {w : World} (hi : Inv base g st.abs w) {s d : TypeId} {x v : V} (h : Jbx P st s d x = some v) {c : Value} (hx : R g x c) :
  ∃ r, (convert s d c).run P w = .ok r w ∧ R g v r := by
 unfold Jbx at h
 split at h
 ·rename_i e hs hd
  split at h
  ·rename_i cs n he hc
   split at h
   ·rename_i bs hb
    simp only [Option.some.injEq] at h; subst h
    obtain ⟨l, hr, hl, hlies⟩ := JcG hi hc hx
    obtain ⟨ns, hns, rfl⟩ := Jey _ hb hr
    refine ⟨.string ⟨⟨ns.map fun n => UInt8.ofNat n.toNat⟩⟩, ?_, by have := R.str (g := g) (S.ofList (ns.map fun n => UInt8.ofNat n.toNat)); rwa [S.toList_ofList] at this⟩
    cases hlies with
    | none c =>
     have : ns = [] := by simpa using hns.symm
     subst this
     simp [convert, run_underlying hs, run_underlying hd, run_underlying he, Conv.bytesToString]
     rfl
    | some a n c _ hcell =>
     subst hns
     rw [run_convert_bytes_string w s d e (some a) n c hs he hd]
     have hn : ns.length = n := by simpa using hl
     have h1 := run_loadCells_list (P := P) (w := w) a (ns.map (Value.int .u8)) hcell
     rw [List.length_map, hn] at h1
     rw [run_bytesToString w a n c ns h1]
     have := Jlv ns []
     rw [List.nil_append] at this
     rw [← this]
     rfl
   ·simp at h
  ·simp at h
 ·
  rename_i t hs hd
  split at h
  ·simp only [Option.some.injEq] at h; subst h
   cases hx
   exact ⟨.pointer none, by simp [convert, run_underlying hs, run_underlying hd, Conv.unsafePointer], .nilp⟩
  ·rename_i id off
   split at h
   ·rename_i cs e fl fz z hcs hz
    split at h
    ·rename_i hlt
     have hlt : off < cs.length := by simpa [Nat.blt_eq] using hlt
     simp only [Option.some.injEq] at h; subst h
     cases hx with
     | ptr _ _ b o bs hb =>
      obtain ⟨pre, mid, rest, f, h1, h2, hr, _, _, _, _⟩ := hi.cells (i := id) hcs hb
      refine ⟨.pointer (some ⟨b, o + off, none⟩), ?_, .ptr _ _ b o bs hb⟩
      have hlen := hr.len
      have hnot : ¬ ((⟨pre ++ mid ++ rest⟩ : Array Value).size ≤ o + off) := by
       simp; omega
      simp [convert, run_underlying hs, run_underlying hd, Conv.unsafePointer, Jeb h1, Jgj h1, JF hz]
      simp at hnot
      omega
    ·simp at h
   ·simp at h
  ·simp at h
 ·
  rename_i u hs hd
  split at h
  ·simp only [Option.some.injEq] at h; subst h
   cases hx
   exact ⟨.pointer none, by simp [convert, run_underlying hs, run_underlying hd, Conv.unsafePointer], .nilp⟩
  ·rename_i id off
   split at h
   ·rename_i cs e fz zu hcs hzu
    split at h
    ·rename_i hlies
     simp only [Option.some.injEq] at h; subst h
     cases hx with
     | ptr _ _ b o bs hb =>
      obtain ⟨pre, mid, rest, f, h1, h2, hr, _, hf, _, _⟩ := hi.cells (i := id) hcs hb
      obtain ⟨rfl, rfl⟩ := hf rfl
      have hpre : pre = [] := List.eq_nil_of_length_eq_zero h2
      subst hpre
      have hlen := hr.len
      refine ⟨.pointer (some ⟨b, 0 + off, none⟩), ?_, .ptr _ _ b 0 bs hb⟩
      have hv : (variablesAt ⟨b, 0 + off, none⟩ u 1).run P w = .ok true w := by
       have : (⟨[] ++ mid ++ []⟩ : Array Value).size = cs.length := by simp [hlen]
       simp only [variablesAt, Sem.run_bind, program, Sem.run, Result.andThen, Jb2 h1, this, Nat.zero_add]
       simp only [pure, Sem.run]
       rw [hlies]
      simp only [Nat.zero_add] at hv ⊢
      simp only [convert, Sem.run_bind, run_underlying hs, run_underlying hd, Result.andThen_ok, Conv.unsafePointer, Jeb h1, JF hzu]
      by_cases hn : zu = 0
      ·simp [hn, hv]
      ·simp [hn, hv]
    ·simp at h
   ·simp at h
  ·simp at h
 ·exact Jbm h (.cons _ _ _ _ hx .nil) w
inductive Ps (g : Gh) : List (Nat × V) → List (Nat × Value) → Prop
 | nil : Ps g [] []
 | cons (i : Nat) (v : V) (c : Value) (vs : List (Nat × V)) (cs : List (Nat × Value)) (h : R g v c) (hs : Ps g vs cs) : Ps g ((i, v) :: vs) ((i, c) :: cs)
theorem Jez [Memo] {g : Gh} {N : Nat} {fr : Fr} {a : Act} (h : FR g N fr a) : ∀ (xs : List (Nat × Operand)) {vs : List (Nat × V)}, Jx fr xs = some vs → Ps g vs (xs.map fun (i, x) => (i, a.eval x))
 | [], vs, hv => by simp [Jx] at hv; subst hv; exact .nil
 | (i, x) :: xs, vs, hv => by
  simp only [Jx] at hv
  split at hv
  ·rename_i v h1
   split at hv
   ·rename_i l h2
    simp only [Option.some.injEq] at hv; subst hv
    exact .cons _ _ _ _ _ (Qh h h1) (Jez h xs h2)
   ·simp at hv
  ·simp at hv
theorem JgR (off : Nat) : ∀ (vs : List Value) (k : Nat) (cs : Array Value), off + k + vs.length ≤ cs.size →
  ((vs.zipIdx k).foldl (fun (cs : Array Value) (p : Value × Nat) => cs.setIfInBounds (off + p.2) p.1) cs) = ⟨cs.toList.take (off + k) ++ vs ++ cs.toList.drop (off + k + vs.length)⟩
 | [], k, cs, h => by simp
 | v :: vs, k, cs, h => by
  simp only [List.length_cons] at h
  simp only [List.zipIdx_cons, List.foldl_cons]
  rw [JgR off vs (k + 1) _ (by simp; omega)]
  have hlt : off + k < cs.toList.length := by simpa using (show off + k < cs.size by omega)
  congr 1
  rw [Array.toList_setIfInBounds]
  have e : cs.toList.set (off + k) v = cs.toList.take (off + k) ++ v :: cs.toList.drop (off + k + 1) := by
   rw [List.set_eq_take_append_cons_drop, if_pos hlt]
  have hl : (cs.toList.take (off + k)).length = off + k := by rw [List.length_take]; omega
  have e1 : off + (k + 1) = (cs.toList.take (off + k)).length + 1 := by omega
  have e2 : off + (k + 1) + vs.length = (cs.toList.take (off + k)).length + (vs.length + 1) := by omega
  rw [e, e2, e1, List.take_length_add_append, List.drop_length_add_append]
  have e3 : off + k + (vs.length + 1) = off + k + 1 + vs.length := by omega
  simp [List.drop_drop, e3]
theorem Jfj {g : Gh} {place : Nat → Option (Nat × Nat)} : ∀ {vs : List (Nat × V)} {cells : List V} {r : List V} {cs : List (Nat × Value)} {l : List Value},
  Jfy place cells vs = some r → Ps g vs cs → Rs g cells l → ∃ l', Instr.fill place ⟨l⟩ cs = some ⟨l'⟩ ∧ Rs g r l'
 | [], cells, r, cs, l, h, hp, hr => by
  cases hp
  simp [Jfy] at h; subst h
  exact ⟨l, rfl, hr⟩
 | (i, v) :: vs, cells, r, cs, l, h, hp, hr => by
  cases hp with
  | cons _ _ c _ cs' hc hps =>
   simp only [Jfy] at h
   split at h
   ·simp at h
   ·rename_i off size hpl
    split at h
    ·rename_i hb
     obtain ⟨b1, b2⟩ := Jah hb
     have b1 := Nat.eq_of_beq_eq_true b1
     have b2 := Nat.le_of_ble_eq_true b2
     have hcc := hc.cells
     have hlen := hcc.len
     have hl := hr.len
     have hov : Rs g (over cells off v.cells) (l.take off ++ c.cells.toList ++ l.drop (off + c.cells.toList.length)) := by
      unfold over
      rw [← hlen]
      exact ((hr.take off).app hcc).app (hr.drop _)
     obtain ⟨l', h1, h2⟩ := Jfj h hps hov
     refine ⟨l', ?_, h2⟩
     have hsz : c.cells.size = size := by rw [← Array.length_toList, ← hlen, b1]
     simp only [Instr.fill, hpl]
     rw [if_neg (by simp [hsz]; omega)]
     have := JgR off c.cells.toList 0 ⟨l⟩ (by simp; omega)
     rw [← Array.foldl_toList, Array.toList_zipIdx]
     simp only [Nat.add_zero] at this
     rw [this]
     exact h1
    ·simp at h
end Go.Vm
