/- Operations that make variables and write them. -/
import Derived.Test.YtlmmgpmioaecnaaGreatDoorVmVal5
namespace Go.Vm
open Go Go.RowKit
def SS.putBox (s : SS) (i : Nat) (x : Bx) : SS := { s with box := fun k => if k = i then some x else s.box k }
def SS.kill (s : SS) (i : Nat) : SS := { s with box := fun k => if k = i then none else s.box k }
theorem JcE (st : St) (i : Nat) (x : Bx) : ({ st with box := st.box.put i x } : St).abs = st.abs.putBox i x := by
 simp only [St.abs, SS.putBox]
 congr 1
 funext k
 exact Tr.get_put _ _ _ _
theorem JnR (st : St) (x : Bx) : { (st.abs.putBox st.ctr x) with ctr := st.ctr + 1 } = (st.new x).abs := by
 have := JcE st st.ctr x
 simp only [St.abs, SS.putBox, St.new] at this ⊢
 congr 1
 injection this with _ h2
 exact h2.symm
theorem Inv.kill {base : Nat} {g : Gh} {s : SS} {w : World} (hi : Inv base g s w) (i : Nat) : Inv base g (s.kill i) w := by
 have live : ∀ {k x}, (s.kill i).box k = some x → s.box k = some x := fun {k x} h => by
  have h : (if k = i then none else s.box k) = some x := h
  split at h
  ·simp at h
  ·exact h
 refine ⟨hi.size, hi.pub, fun k x h => hi.box k x (live h), hi.boxat, fun a c x y b o bs o' bs' h1 h2 => hi.boxinj a c x y b o bs o' bs' (live h1) (live h2), fun k hk => ?_⟩
 obtain ⟨f1, f2⟩ := hi.fresh k hk
 refine ⟨f1, ?_⟩
 show (if k = i then none else s.box k) = none
 split
 ·rfl
 ·exact f2
theorem Own.kill {g : Gh} {s : SS} {i b : Nat} (h : Own g (s.kill i) b) : Own g s b := by
 obtain ⟨k, x, o, bs, h1, h2⟩ := h
 have h1 : (if k = i then none else s.box k) = some x := h1
 split at h1
 ·simp at h1
 ·exact ⟨k, x, o, bs, h1, h2⟩
theorem Inv.killed {base : Nat} {g : Gh} {s : SS} {w : World} (hi : Inv base g s w) {i : Nat} {x : Bx} (hs : s.box i = some x) {b o bs : Nat} (hb : g.box i = some (b, o, bs)) : ¬ Own g (s.kill i) b := by
 rintro ⟨k, y, o', bs', h1, h2⟩
 have h1 : (if k = i then none else s.box k) = some y := h1
 split at h1
 ·simp at h1
 ·rename_i hk
  exact hk (hi.boxinj k i y x b o' bs' o bs h1 hs h2 hb)
theorem Inv.newAt {base : Nat} {g : Gh} {s : SS} {w w' : World} (hi : Inv base g s w) (i : Nat) (hgi : g.box i = none) (hsi : s.box i = none) {b o bs : Nat} (hb1 : base ≤ b) (hb2 : b < w'.heap.size)
  (hsz : w.heap.size ≤ w'.heap.size) (hpub : ∀ j, g.pub b j = none) (hfree : ¬ Own g s b) {x : Bx} {m : Obj} (hnew : w'.heap[b]? = some m) (hother : ∀ k, k ≠ b → k < w.heap.size → w'.heap[k]? = w.heap[k]?)
  (hr : BR g o bs x m) (c' : Nat) (hc : s.ctr ≤ c') (hic : i < c') :
  ∃ g', Inv base g' { (s.putBox i x) with ctr := c' } w' ∧ g.le g' ∧ (∀ b', Own g' { (s.putBox i x) with ctr := c' } b' → b' = b ∨ Own g s b') ∧ g'.box i = some (b, o, bs) ∧ (∀ j, j ≠ i → g'.box j = g.box j) := by
 let g' : Gh := { g with box := fun k => if k = i then some (b, o, bs) else g.box k }
 have hl : g.le g' := ⟨fun _ _ _ h => h, fun k b' h => by
  show (if k = i then some (b, o, bs) else g.box k) = some b'
  rw [if_neg (fun e => by subst e; rw [hgi] at h; simp at h)]; exact h⟩
 have lt : ∀ {b : Nat} {o : Obj}, w.heap[b]? = some o → b < w.heap.size := fun h => (Array.getElem?_eq_some_iff.1 h).1
 have gb : ∀ k p, g'.box k = some p → (k = i ∧ p = (b, o, bs)) ∨ (k ≠ i ∧ g.box k = some p) := fun k p h => by
  have h : (if k = i then some (b, o, bs) else g.box k) = some p := h
  split at h
  ·rename_i hk; exact .inl ⟨hk, by simpa using h.symm⟩
  ·rename_i hk; exact .inr ⟨hk, h⟩
 have sb : ∀ k y, ({ (s.putBox i x) with ctr := c' } : SS).box k = some y → (k = i ∧ y = x) ∨ (k ≠ i ∧ s.box k = some y) := fun k y h => by
  have h : (if k = i then some x else s.box k) = some y := h
  split at h
  ·rename_i hk; exact .inl ⟨hk, by simpa using h.symm⟩
  ·rename_i hk; exact .inr ⟨hk, h⟩
 refine ⟨g', ⟨Nat.le_trans hi.size hsz, fun b' o' c h => ?_, fun k ks h => ?_, fun k b' o' bs' h => ?_, fun j k y z b' o1 bs1 o2 bs2 h1 h2 h3 h4 => ?_, fun k hk => ?_⟩,
  hl, fun b' h => ?_, by show (if i = i then _ else _) = _; rw [if_pos rfl], fun j hj => by show (if j = i then _ else _) = _; rw [if_neg hj]⟩
 ·have hp := hi.pub _ _ _ h
  have hne : b' ≠ b := fun e => by subst e; rw [hpub] at h; simp at h
  have hlt := World.block_lt_of_cell? w _ hp
  rw [World.cell?_of_block (w := w) (hother b' hne hlt)]
  exact hp
 ·rcases sb k ks h with ⟨rfl, rfl⟩ | ⟨hk, h⟩
  ·exact ⟨b, o, bs, m, by show (if k = k then _ else _) = _; rw [if_pos rfl], hnew, hr.mono hl⟩
  ·obtain ⟨b', o', bs', m', h1, h2, h3⟩ := hi.box k ks h
   have hne : b' ≠ b := fun e => hfree ⟨k, ks, o', bs', h, e ▸ h1⟩
   exact ⟨b', o', bs', m', by show (if k = i then _ else _) = _; rw [if_neg hk]; exact h1, by rw [hother b' hne (lt h2)]; exact h2, h3.mono hl⟩
 ·rcases gb k _ h with ⟨_, e⟩ | ⟨_, h⟩
  ·simp only [Prod.mk.injEq] at e
   obtain ⟨rfl, rfl, rfl⟩ := e
   exact ⟨hb1, hb2, hpub⟩
  ·obtain ⟨h1, h2, h3⟩ := hi.boxat k b' o' bs' h
   exact ⟨h1, Nat.lt_of_lt_of_le h2 hsz, h3⟩
 ·rcases gb j _ h3 with ⟨e1, e2⟩ | ⟨n1, q1⟩
  ·rcases gb k _ h4 with ⟨e3, _⟩ | ⟨n2, q2⟩
   ·rw [e1, e3]
   ·simp only [Prod.mk.injEq] at e2
    obtain ⟨rfl, _, _⟩ := e2
    rcases sb k z h2 with ⟨e, _⟩ | ⟨_, h2⟩
    ·exact absurd e n2
    ·exact absurd ⟨k, z, o2, bs2, h2, q2⟩ hfree
  ·rcases gb k _ h4 with ⟨_, e2⟩ | ⟨n2, q2⟩
   ·simp only [Prod.mk.injEq] at e2
    obtain ⟨rfl, _, _⟩ := e2
    rcases sb j y h1 with ⟨e, _⟩ | ⟨_, h1⟩
    ·exact absurd e n1
    ·exact absurd ⟨j, y, o1, bs1, h1, q1⟩ hfree
   ·rcases sb j y h1 with ⟨e, _⟩ | ⟨_, h1⟩
    ·exact absurd e n1
    ·rcases sb k z h2 with ⟨e, _⟩ | ⟨_, h2⟩
     ·exact absurd e n2
     ·exact hi.boxinj j k y z b' o1 bs1 o2 bs2 h1 h2 q1 q2
 ·have hk' : c' ≤ k := hk
  obtain ⟨f1, f2⟩ := hi.fresh k (Nat.le_trans hc hk')
  have hne : k ≠ i := by omega
  exact ⟨by show (if k = i then _ else _) = _; rw [if_neg hne]; exact f1, by show (if k = i then _ else _) = _; rw [if_neg hne]; exact f2⟩
 ·obtain ⟨k, ks, o', bs', h1, h2⟩ := h
  rcases gb k _ h2 with ⟨_, e⟩ | ⟨hk, h2⟩
  ·simp only [Prod.mk.injEq] at e
   exact .inl e.1
  ·rcases sb k ks h1 with ⟨e, _⟩ | ⟨_, h1⟩
   ·exact absurd e hk
   ·exact .inr ⟨k, ks, o', bs', h1, h2⟩
theorem Inv.freeNew {base : Nat} {g : Gh} {s : SS} {w : World} (hi : Inv base g s w) : ¬ Own g s w.heap.size := by
 rintro ⟨k, x, o, bs, h1, h2⟩
 exact Nat.lt_irrefl _ (hi.boxat k _ _ _ h2).2.1
theorem Inv.newBox {base : Nat} {g : Gh} {s : SS} {w : World} (hi : Inv base g s w) (i : Nat) (hgi : g.box i = none) (hsi : s.box i = none) {x : Bx} {m : Obj} {bs : Nat} (hr : BR g 0 bs x m) (c' : Nat) (hc : s.ctr ≤ c') (hic : i < c') :
  ∃ g', Inv base g' { (s.putBox i x) with ctr := c' } (w.alloc m) ∧ g.le g' ∧ (∀ b, b < w.heap.size → Own g' { (s.putBox i x) with ctr := c' } b → Own g s b) ∧ g'.box i = some (w.heap.size, 0, bs) ∧
   (∀ j, j ≠ i → g'.box j = g.box j) := by
 obtain ⟨g', h1, h2, h3, h4, h5⟩ := hi.newAt (w' := w.alloc m) i hgi hsi (b := w.heap.size) (o := 0) (bs := bs) hi.size (by simp) (by simp) (fun j => hi.nopub j) hi.freeNew (heap_alloc_new w _) (fun k _ hk => Below.heap_alloc w _ k hk) hr c' hc hic
 refine ⟨g', h1, h2, fun b hb ho => ?_, h4, h5⟩
 rcases h3 b ho with rfl | h
 ·exact absurd hb (Nat.lt_irrefl _)
 ·exact h
theorem Inv.newVar {base : Nat} {g : Gh} {s : SS} {w : World} (hi : Inv base g s w) {x : Bx} {m : Obj} {bs : Nat} (hr : BR g 0 bs x m) :
  ∃ g', Inv base g' { (s.putBox s.ctr x) with ctr := s.ctr + 1 } (w.alloc m) ∧ Ext base g s w g' { (s.putBox s.ctr x) with ctr := s.ctr + 1 } (w.alloc m) ∧ g'.box s.ctr = some (w.heap.size, 0, bs) := by
 obtain ⟨f1, f2⟩ := hi.fresh s.ctr (Nat.le_refl _)
 obtain ⟨g', h1, h2, h3, h4, h5⟩ := hi.newBox s.ctr f1 f2 hr (s.ctr + 1) (by omega) (by omega)
 refine ⟨g', h1, ⟨h2, Nat.le_succ _, (Below.refl _ _).alloc hi.size _, fun b hb _ => Below.heap_alloc w _ b hb, h3, fun k hk hn => ?_⟩, h4⟩
 have hne : k ≠ s.ctr := by omega
 exact ⟨by show (if k = s.ctr then _ else _) = _; rw [if_neg hne]; exact hn, h5 k hne⟩
theorem Inv.newObj {base : Nat} {g : Gh} {st : St} {w : World} (hi : Inv base g st.abs w) {x : Bx} {m : Obj} {bs : Nat} (hr : BR g 0 bs x m) :
  ∃ g', Inv base g' (st.new x).abs (w.alloc m) ∧ Ext base g st.abs w g' (st.new x).abs (w.alloc m) ∧ g'.box st.ctr = some (w.heap.size, 0, bs) := by
 rw [← JnR]
 exact hi.newVar hr
theorem Inv.drew {base : Nat} {g : Gh} {s : SS} {w : World} (hi : Inv base g s w) : Inv base g s w.drew :=
 ⟨hi.size, hi.pub, hi.box, hi.boxat, hi.boxinj, hi.fresh⟩
theorem Below.setRow {B : Nat} {a w : World} (h : Below B a w) {b : Nat} (hb : B ≤ b) (l : Array Value) : Below B a (w.setRow b l) :=
 h.trans ⟨rfl, rfl, rfl, by simp, fun k hk => setRow_other _ _ _ _ (by omega)⟩
theorem Below.putObj {B : Nat} {a w : World} (h : Below B a w) {b : Nat} (hb : B ≤ b) (o : Obj) : Below B a (w.putObj b o) :=
 h.trans ⟨rfl, rfl, rfl, by simp, fun k hk => World.putObj_heap_other (by omega)⟩
theorem Inv.setObj {base : Nat} {g : Gh} {s : SS} {w w' : World} (hi : Inv base g s w) {i : Nat} {x0 : Bx} (hs : s.box i = some x0) {b o bs : Nat} (hb : g.box i = some (b, o, bs)) {x : Bx} {m : Obj}
  (hsz : w'.heap.size = w.heap.size) (hnew : w'.heap[b]? = some m) (hother : ∀ k, k ≠ b → w'.heap[k]? = w.heap[k]?) (hbl : base ≤ b → Below base w w') (hr : BR g o bs x m) :
  Inv base g (s.putBox i x) w' ∧ Ext base g s w g (s.putBox i x) w' := by
 obtain ⟨hb1, hb2, hb3⟩ := hi.boxat i b o bs hb
 have hown : Own g s b := ⟨i, x0, o, bs, hs, hb⟩
 have sb : ∀ k y, (s.putBox i x).box k = some y → (k = i ∧ y = x) ∨ (k ≠ i ∧ s.box k = some y) := fun k y h => by
  have h : (if k = i then some x else s.box k) = some y := h
  split at h
  ·rename_i hk; exact .inl ⟨hk, by simpa using h.symm⟩
  ·rename_i hk; exact .inr ⟨hk, h⟩
 have old : ∀ k y, (s.putBox i x).box k = some y → ∃ y', s.box k = some y' := fun k y h => by
  rcases sb k y h with ⟨rfl, _⟩ | ⟨_, h⟩
  ·exact ⟨_, hs⟩
  ·exact ⟨_, h⟩
 refine ⟨⟨by rw [hsz]; exact hi.size, fun b' o' c h => ?_, fun k ks h => ?_, fun k b' o' bs' h => ?_, fun j k y z b' o1 bs1 o2 bs2 h1 h2 h3 h4 => ?_, fun k hk => ?_⟩,
  ⟨.refl g, Nat.le_refl _, hbl hb1, fun b' hb' ho => hother _ (fun e => ho (e ▸ hown)), fun b' hb' h => ?_, fun k hk hn => ?_⟩⟩
 ·have hne : b' ≠ b := fun e => by subst e; rw [hb3] at h; simp at h
  have := hi.pub _ _ _ h
  rw [World.cell?_of_block (w := w) (hother _ hne)]; exact this
 ·rcases sb k ks h with ⟨rfl, rfl⟩ | ⟨hk, h⟩
  ·exact ⟨b, o, bs, m, hb, hnew, hr⟩
  ·obtain ⟨b', o', bs', m', h1, h2, h3⟩ := hi.box k ks h
   have hne : b' ≠ b := fun e => hk (hi.boxinj k i ks x0 b o' bs' o bs h hs (e ▸ h1) hb)
   exact ⟨b', o', bs', m', h1, by rw [hother _ hne]; exact h2, h3⟩
 ·obtain ⟨h1, h2, h3⟩ := hi.boxat k b' o' bs' h
  exact ⟨h1, by rw [hsz]; exact h2, h3⟩
 ·obtain ⟨y', h1⟩ := old j y h1
  obtain ⟨z', h2⟩ := old k z h2
  exact hi.boxinj j k y' z' b' o1 bs1 o2 bs2 h1 h2 h3 h4
 ·obtain ⟨f1, f2⟩ := hi.fresh k hk
  have hne : k ≠ i := fun e => by subst e; rw [f1] at hb; simp at hb
  exact ⟨f1, by show (if k = i then _ else _) = _; rw [if_neg hne]; exact f2⟩
 ·obtain ⟨k, ks, o', bs', h1, h2⟩ := h
  obtain ⟨y', h1⟩ := old k ks h1
  exact ⟨k, y', o', bs', h1, h2⟩
 ·have hne : k ≠ i := fun e => by subst e; rw [hs] at hn; simp at hn
  exact ⟨by show (if k = i then _ else _) = _; rw [if_neg hne]; exact hn, rfl⟩
theorem Inv.putObj {base : Nat} {g : Gh} {st : St} {w : World} (hi : Inv base g st.abs w) {i : Nat} {x0 : Bx} (hs : st.box.get i = some x0) {b o bs : Nat} (hb : g.box i = some (b, o, bs)) {x : Bx} {m : Obj} (hr : BR g o bs x m) :
  Inv base g (st.put i x).abs (w.putObj b m) ∧ Ext base g st.abs w g (st.put i x).abs (w.putObj b m) := by
 have e : (st.put i x).abs = st.abs.putBox i x := JcE st i x
 rw [e]
 exact hi.setObj (i := i) hs hb (by simp) (World.putObj_heap_same (hi.boxat i b o bs hb).2.1) (fun k hk => World.putObj_heap_other hk) (fun h => Below.putObj (.refl _ _) h _) hr
theorem Jbl (P : Program) (g o : Nat) (t : TypeId) (fz : Nat × Nat) : ∀ (vs : List Value) (i : Nat) (cur : Array Value) (w : World), w.heap[g]? = some (.cells cur t fz) → (fz.2 ≤ o + i ∨ o + i + vs.length ≤ fz.1) →
  o + i + vs.length ≤ cur.size → (∀ v ∈ vs, v.oneCell' = true) →
  (storeCells ⟨g, o, none⟩ vs i).run P w = .ok () (w.setRow g (cur.toList.take (o + i) ++ vs ++ cur.toList.drop (o + i + vs.length)).toArray)
 | [], i, cur, w, hg, _, _, _ => by
  simp only [storeCells, List.append_nil, List.length_nil, Nat.add_zero, List.take_append_drop, Array.toArray_toList]
  rw [setRow_self w g cur t fz hg]
  rfl
 | v :: rest, i, cur, w, hg, hfz, hl, h1 => by
  simp only [List.length_cons] at hfz hl
  have hi : o + i < cur.size := by omega
  have hcell : w.cell? ⟨g, o + i, none⟩ = some cur[o + i] := by simp [World.cell?, hg, hi]
  have hfro : w.frozen? ⟨g, o + i, none⟩ = false := by
   obtain ⟨lo, hi'⟩ := fz
   simp only [World.frozen?, hg, Bool.and_eq_false_iff, decide_eq_false_iff_not]
   simp only at hfz
   omega
  have hst : (store ((⟨g, o, none⟩ : Addr).add i) v).run P w = .ok () (w.setRow g (cur.setIfInBounds (o + i) v)) := by
   rw [Addr.add_lit, run_store P w _ v _ (h1 v (by simp)), hcell]
   simp [hfro, setCell_eq_setRow w g (o + i) cur t fz v hg]
  have ih := Jbl P g o t fz rest (i + 1) (cur.setIfInBounds (o + i) v) (w.setRow g (cur.setIfInBounds (o + i) v)) (setRow_heap w g cur _ t _ hg) (by omega) (by simp; omega) (fun x hx => h1 x (by simp [hx]))
  simp only [storeCells, Sem.run_bind, hst, Result.andThen_ok, ih, setRow_setRow]
  congr 2
  apply congrArg
  apply List.ext_getElem?
  intro j
  simp only [Array.toList_setIfInBounds, List.getElem?_append, List.getElem?_take, List.getElem?_drop, List.length_append, List.length_take, List.length_set, Array.length_toList, List.getElem?_set, List.length_cons]
  have hm1 : min (o + (i + 1)) cur.size = o + i + 1 := by omega
  have hm2 : min (o + i) cur.size = o + i := by omega
  rw [hm1, hm2]
  by_cases c1 : j < o + i
  ·simp [show j < o + i + 1 + rest.length by omega, show j < o + i + 1 by omega, show j < o + (i + 1) by omega, show ¬ o + i = j by omega, show j < o + i + (rest.length + 1) by omega, c1]
  ·by_cases c2 : j = o + i
   ·subst c2
    simp [show o + i < o + i + 1 + rest.length by omega, show o + i < o + (i + 1) by omega, hi]
   ·by_cases c3 : j < o + i + 1 + rest.length
    ·have e1 : j - (o + i) = (j - (o + i + 1)) + 1 := by omega
     simp [c1, c3, show ¬ j < o + i + 1 by omega, show j < o + i + (rest.length + 1) by omega, e1]
    ·have e2 : o + (i + 1) + rest.length + (j - (o + i + 1 + rest.length)) = j := by omega
     have e3 : o + i + (rest.length + 1) + (j - (o + i + (rest.length + 1))) = j := by omega
     simp [c3, show ¬ j < o + i + (rest.length + 1) by omega, e2, e3, show ¬ o + i = j by omega]
theorem Jjy {fz : Option Nat} {o bs off len : Nat} {f : Nat × Nat} (hz : fzR fz o bs f) (hk : Jb8 fz off = true) (hl : o + off + len ≤ bs) : f.2 ≤ o + off ∨ o + off + len ≤ f.1 := by
 cases fz with
 | some k => have hk := Nat.le_of_ble_eq_true hk; have : f.2 ≤ o + k := hz; left; omega
 | none => have : bs ≤ f.1 ∨ f.2 = 0 := hz; omega
theorem JmX (pre mid rest cs : List Value) {o off : Nat} (ho : pre.length = o) (hl : off + cs.length ≤ mid.length) :
  (pre ++ mid ++ rest).take (o + off) ++ cs ++ (pre ++ mid ++ rest).drop (o + off + cs.length) = pre ++ (mid.take off ++ cs ++ mid.drop (off + cs.length)) ++ rest := by
 subst ho
 rw [List.append_assoc pre mid rest, Nat.add_assoc, List.take_length_add_append, List.drop_length_add_append, List.take_append_of_le_length (by omega), List.drop_append_of_le_length hl]
 simp [List.append_assoc]
theorem Inv.storeBox {P : Program} {base : Nat} {g : Gh} {st : St} {w : World} (hi : Inv base g st.abs w) {id : Nat} {cs : List V} {e : TypeId} {fl : Bool} {fz : Option Nat} (hcs : st.box.get id = some (.cells cs e fl fz))
  {b o bs : Nat} (hb : g.box id = some (b, o, bs)) {off : Nat} {ns : List V} {cns : List Value} (hn : Rs g ns cns) (hone : ns.all Ju = true) (hle : off + ns.length ≤ cs.length) (hfz : Jb8 fz off = true) :
  ∃ w', (storeCells ⟨b, o + off, none⟩ cns 0).run P w = .ok () w' ∧ Inv base g ({ st with box := st.box.put id (.cells (over cs off ns) e fl fz) } : St).abs w' ∧
   Ext base g st.abs w g ({ st with box := st.box.put id (.cells (over cs off ns) e fl fz) } : St).abs w' := by
 obtain ⟨pre, mid, rest, f, h1, ho, hr, hs, hf, hz, _⟩ := hi.cells (i := id) hcs hb
 have hlen := hr.len
 have hnl := hn.len
 have hbs : o + off + cns.length ≤ bs := by simp at hs; omega
 have hov : Rs g (over cs off ns) (mid.take off ++ cns ++ mid.drop (off + cns.length)) := by
  unfold over
  rw [← hnl]
  exact ((hr.take off).app hn).app (hr.drop _)
 have hst := Jbl P b (o + off) e f cns 0 ⟨pre ++ mid ++ rest⟩ w h1 (by have := Jjy hz hfz hbs; simpa using this) (by simp at hs ⊢; omega) (hn.ones hone)
 simp only [Nat.add_zero] at hst
 rw [JmX pre mid rest cns ho (by omega)] at hst
 refine ⟨_, hst, ?_⟩
 rw [JcE]
 refine hi.setObj (i := id) hcs hb (by simp) (setRow_heap _ _ _ _ _ _ h1) (fun k hk => setRow_other _ _ _ _ hk) (fun h => Below.setRow (.refl _ _) h _) ?_
 refine .cells _ e fl fz pre _ rest f ho hov ?_ hf hz
 have hml : (mid.take off ++ cns ++ mid.drop (off + cns.length)).length = mid.length := by simp; omega
 simp only [List.length_append] at hs hml ⊢
 omega
theorem Jjz {P : Program} {base : Nat} {g : Gh} {st st' : St} {w : World} (hi : Inv base g st.abs w) {t : TypeId} {x v : V} (h : JaN P st t x v = some st') {cx cv : Value} (hx : R g x cx) (hv : R g v cv) :
  ∃ w', (Instr.storeAt t cx cv).run P w = .ok () w' ∧ Inv base g st'.abs w' ∧ Ext base g st.abs w g st'.abs w' := by
 unfold JaN at h
 split at h
 ·rename_i id off n hn
  cases hx with
  | ptr _ _ b o bs hb =>
   split at h
   ·rename_i cs e fl fz hcs
    split at h
    ·rename_i hbb
     obtain ⟨b123, b4⟩ := Jah hbb
     obtain ⟨b12, b3⟩ := Jah b123
     obtain ⟨b1, b2⟩ := Jah b12
     have b1 := Nat.eq_of_beq_eq_true b1
     have b2 := Nat.le_of_ble_eq_true b2
     simp only [Option.some.injEq] at h; subst h
     have hvc := hv.cells
     obtain ⟨w', h1, h2, h3⟩ := hi.storeBox (P := P) hcs hb hvc b3 (by omega) b4
     refine ⟨w', ?_, h2, h3⟩
     have hsz : cv.cells.size = n := by rw [← Array.length_toList, ← hvc.len, b1]
     simp only [Instr.storeAt, Sem.run_bind, Instr.sureAddr, Sem.run_pure, Result.andThen_ok, storeVar, JF hn, hsz, ne_eq, not_true_eq_false, if_false]
     exact h1
    ·simp at h
   ·simp at h
 ·simp at h
end Go.Vm
