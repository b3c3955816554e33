/- Operations that make variables, write them, append. -/
import Derived.Test.YtajfpccgknoafaaVmVal5
namespace Go.Vm
open Go Go.RowKit

def SS.putBox (s : SS) (i : Nat) (cs : List V) : SS := { s with box := fun k => if k = i then some cs else s.box k }

theorem abs_putBox (st : St) (i : Nat) (cs : List V) : ({ st with box := st.box.put i cs } : St).abs = st.abs.putBox i cs := by
  simp only [St.abs, SS.putBox]
  congr 1
  funext k
  exact Tr.get_put _ _ _ _

/-- a new variable, at a number that is free -/
theorem Inv.newBox {base : Nat} {g : Gh} {s : SS} {w : World} (hi : Inv base g s w) (i : Nat) (hgi : g.box i = none) (hsi : s.box i = none) {cs : List V} {l : List Value} (hr : Rs g cs l) (e : TypeId) (c' : Nat) (hc : s.ctr ≤ c') (hic : i < c') :
    ∃ g', Inv base g' { (s.putBox i cs) with ctr := c' } (w.alloc (.cells ⟨l⟩ e)) ∧ g.le g' ∧ (∀ b, b < w.heap.size → Own g' { (s.putBox i cs) with ctr := c' } b → Own g s b) ∧ g'.box i = some w.heap.size ∧
      (∀ j, j ≠ i → g'.box j = g.box j) ∧ g'.tok = g.tok := by
  let g' : Gh := { g with box := fun k => if k = i then some w.heap.size else g.box k }
  have hl : g.le g' := ⟨fun _ _ _ h => h, fun k b h => by
    show (if k = i then some w.heap.size else g.box k) = some b
    rw [if_neg (fun e => by subst e; rw [hgi] at h; simp at h)]; exact h, fun _ _ h => h⟩
  have old : ∀ b, b < w.heap.size → (w.alloc (.cells ⟨l⟩ e)).heap[b]? = w.heap[b]? := fun b hb => Below.heap_alloc w _ b hb
  have lt : ∀ {b : Nat} {o : Obj}, w.heap[b]? = some o → b < w.heap.size := fun h => (Array.getElem?_eq_some_iff.1 h).1
  have gb : ∀ k b, g'.box k = some b → (k = i ∧ b = w.heap.size) ∨ (k ≠ i ∧ g.box k = some b) := fun k b h => by
    have h : (if k = i then some w.heap.size else g.box k) = some b := h
    split at h
    · rename_i hk; exact .inl ⟨hk, by simpa using h.symm⟩
    · rename_i hk; exact .inr ⟨hk, h⟩
  refine ⟨g', ⟨Nat.le_trans hi.size (by simp), fun b o c h => ?_, fun k ks h => ?_, fun k b h => ?_, fun j k b h1 h2 => ?_, fun k b o n h hs => ?_, hi.tokinj, fun k hk => ?_⟩,
    hl, fun b hb h => ?_, by show (if i = i then _ else _) = _; rw [if_pos rfl], fun j hj => by show (if j = i then _ else _) = _; rw [if_neg hj], rfl⟩
  · have := hi.pub _ _ _ h
    rw [World.cell?_alloc_lt w _ _ (World.block_lt_of_cell? w _ this)]
    exact this
  · have h : (if k = i then some cs else s.box k) = some ks := h
    split at h
    · rename_i hk
      simp only [Option.some.injEq] at h; subst h; subst hk
      exact ⟨w.heap.size, l, e, by show (if k = k then _ else _) = _; rw [if_pos rfl], heap_alloc_new w _, hr.mono hl⟩
    · rename_i hk
      obtain ⟨b, l', e', h1, h2, h3⟩ := hi.box k ks h
      exact ⟨b, l', e', by show (if k = i then _ else _) = _; rw [if_neg hk]; exact h1, by rw [old b (lt h2)]; exact h2, h3.mono hl⟩
  · rcases gb k b h with ⟨_, rfl⟩ | ⟨_, h⟩
    · exact ⟨hi.size, by simp, fun o => hi.nopub o⟩
    · obtain ⟨h1, h2, h3⟩ := hi.boxat k b h
      exact ⟨h1, by simp; omega, h3⟩
  · rcases gb j b h1 with ⟨e1, e2⟩ | ⟨hj, q1⟩
    · rcases gb k b h2 with ⟨e3, _⟩ | ⟨_, q2⟩
      · rw [e1, e3]
      · have := (hi.boxat k _ q2).2.1; omega
    · rcases gb k b h2 with ⟨_, e4⟩ | ⟨_, q2⟩
      · have := (hi.boxat j _ q1).2.1; omega
      · exact hi.boxinj j k b q1 q2
  · obtain ⟨h1, ⟨l', e', h2, h2'⟩, h3, h4⟩ := hi.tok k b o n h hs
    refine ⟨h1, ⟨l', e', by rw [old b (lt h2)]; exact h2, h2'⟩, h3, fun j hj => ?_⟩
    rcases gb j b hj with ⟨_, rfl⟩ | ⟨_, hj⟩
    · exact Nat.lt_irrefl _ (lt h2)
    · exact h4 j hj
  · have hk' : c' ≤ k := hk
    obtain ⟨f1, f2, f3, f4⟩ := hi.fresh k (Nat.le_trans hc hk')
    have hne : k ≠ i := by omega
    exact ⟨by show (if k = i then _ else _) = _; rw [if_neg hne]; exact f1, f2, f3, by show (if k = i then _ else _) = _; rw [if_neg hne]; exact f4⟩
  · rcases h with ⟨k, ks, h1, h2⟩ | ⟨k, o, n, h1, h2⟩
    · rcases gb k b h2 with ⟨_, rfl⟩ | ⟨hk, h2⟩
      · exact absurd hb (Nat.lt_irrefl _)
      · have h1 : (if k = i then some cs else s.box k) = some ks := h1
        rw [if_neg hk] at h1
        exact .inl ⟨k, ks, h1, h2⟩
    · exact .inr ⟨k, o, n, h1, h2⟩

theorem Inv.newVar {base : Nat} {g : Gh} {s : SS} {w : World} (hi : Inv base g s w) {cs : List V} {l : List Value} (hr : Rs g cs l) (e : TypeId) :
    ∃ g', Inv base g' { (s.putBox s.ctr cs) with ctr := s.ctr + 1 } (w.alloc (.cells ⟨l⟩ e)) ∧ Ext base g s w g' { (s.putBox s.ctr cs) with ctr := s.ctr + 1 } (w.alloc (.cells ⟨l⟩ e)) ∧ g'.box s.ctr = some w.heap.size := by
  obtain ⟨f1, f2, f3, f4⟩ := hi.fresh s.ctr (Nat.le_refl _)
  obtain ⟨g', h1, h2, h3, h4, h5, h6⟩ := hi.newBox s.ctr f1 f4 hr e (s.ctr + 1) (by omega) (by omega)
  refine ⟨g', h1, ⟨h2, Nat.le_succ _, (Below.refl _ _).alloc hi.size _, fun b hb _ => Below.heap_alloc w _ b hb, h3, fun k hk hn => ?_, fun k _ => by rw [h6]⟩, h4⟩
  have hne : k ≠ s.ctr := by omega
  exact ⟨by show (if k = s.ctr then _ else _) = _; rw [if_neg hne]; exact hn, h5 k hne⟩


/-! ## a store -/
theorem Below.setRow {B : Nat} {a w : World} (h : Below B a w) {b : Nat} (hb : B ≤ b) (l : Array Value) : Below B a (w.setRow b l) :=
  h.trans ⟨rfl, rfl, rfl, by simp, fun k hk => setRow_other _ _ _ _ (by omega)⟩

theorem Inv.setBox {base : Nat} {g : Gh} {s : SS} {w : World} (hi : Inv base g s w) {i : Nat} {cs0 : List V} (hs : s.box i = some cs0) {b : Nat} (hb : g.box i = some b) {l0 : List Value} {e : TypeId}
    (hw : w.heap[b]? = some (.cells ⟨l0⟩ e (0, 0))) {cs : List V} {l : List Value} (hr : Rs g cs l) :
    Inv base g (s.putBox i cs) (w.setRow b ⟨l⟩) ∧ Ext base g s w g (s.putBox i cs) (w.setRow b ⟨l⟩) := by
  obtain ⟨hb1, hb2, hb3⟩ := hi.boxat i b hb
  have hown : Own g s b := .inl ⟨i, cs0, hs, hb⟩
  refine ⟨⟨by simpa using hi.size, fun b' o c h => ?_, fun k ks h => ?_, fun k b' h => ?_, hi.boxinj, fun k b' o n h hsp => ?_, hi.tokinj, fun k hk => ?_⟩,
    ⟨.refl g, Nat.le_refl _, Below.setRow (.refl _ _) hb1 _, fun b' hb' ho => setRow_other _ _ _ _ (fun e => ho (e ▸ hown)), fun b' hb' h => ?_, fun k hk hn => ?_, fun _ _ => rfl⟩⟩
  · have hne : b' ≠ b := fun e => by subst e; rw [hb3] at h; simp at h
    have := hi.pub _ _ _ h
    rw [World.cell?_of_block (w := w) (setRow_other _ _ _ _ hne)]; exact this
  · have q : (if k = i then some cs else s.box k) = some ks := h
    clear h
    split at q
    · rename_i hk
      subst hk
      simp only [Option.some.injEq] at q; subst q
      exact ⟨b, l, e, hb, setRow_heap _ _ _ _ _ _ hw, hr⟩
    · rename_i hk
      obtain ⟨b', l', e', h1, h2, h3⟩ := hi.box k ks q
      have hne : b' ≠ b := fun e => hk (hi.boxinj k i b (e ▸ h1) hb)
      exact ⟨b', l', e', h1, by rw [setRow_other _ _ _ _ hne]; exact h2, h3⟩
  · obtain ⟨h1, h2, h3⟩ := hi.boxat k b' h
    exact ⟨h1, by simpa using h2, h3⟩
  · obtain ⟨h1, ⟨l', e', h2, h2'⟩, h3, h4⟩ := hi.tok k b' o n h hsp
    have hne : b' ≠ b := fun e => h4 i (e ▸ hb)
    exact ⟨h1, ⟨l', e', by rw [setRow_other _ _ _ _ hne]; exact h2, h2'⟩, h3, h4⟩
  · obtain ⟨f1, f2, f3, f4⟩ := hi.fresh k hk
    have hne : k ≠ i := fun e => by subst e; rw [f1] at hb; simp at hb
    exact ⟨f1, f2, f3, by show (if k = i then _ else _) = _; rw [if_neg hne]; exact f4⟩
  · rcases h with ⟨k, ks, h1, h2⟩ | h
    · have h1 : (if k = i then some cs else s.box k) = some ks := h1
      split at h1
      · rename_i hk; subst hk; exact .inl ⟨k, cs0, hs, h2⟩
      · exact .inl ⟨k, ks, h1, h2⟩
    · exact .inr h
  · have hne : k ≠ i := fun e => by subst e; rw [hs] at hn; simp at hn
    exact ⟨by show (if k = i then _ else _) = _; rw [if_neg hne]; exact hn, rfl⟩

theorem vstore_run {P : Program} {base : Nat} {g : Gh} {st st' : St} {w : World} (hi : Inv base g st.abs w) {t : TypeId} {x v : V} (h : vstore P st t x v = some st') {cx cv : Value} (hx : R g x cx) (hv : R g v cv) :
    ∃ w', (Instr.storeAt t cx cv).run P w = .ok () w' ∧ Inv base g st'.abs w' ∧ Ext base g st.abs w g st'.abs w' := by
  unfold vstore at h
  split at h
  · rename_i id off n hn
    cases hx with
    | ptr _ _ b hb =>
      split at h
      · rename_i cs hcs
        split at h
        · rename_i hbb
          obtain ⟨b12, b3⟩ := and3 hbb
          obtain ⟨b1, b2⟩ := and3 b12
          have b1 := Nat.eq_of_beq_eq_true b1
          have b2 := Nat.le_of_ble_eq_true b2
          simp only [Option.some.injEq] at h; subst h
          obtain ⟨l, e, h1, hr, _⟩ := hi.cells (i := id) hcs hb
          have hvc := hv.cells
          have hvl := hvc.len
          have hlen := hr.len
          have hov : Rs g (over cs off v.cells) (l.take off ++ cv.cells.toList ++ l.drop (off + cv.cells.toList.length)) := by
            unfold over
            rw [← hvl]
            exact ((hr.take off).app hvc).app (hr.drop _)
          obtain ⟨i1, i2⟩ := hi.setBox (i := id) hcs hb h1 hov
          refine ⟨_, ?_, by rw [abs_putBox]; exact i1, by rw [abs_putBox]; exact i2⟩
          have hst := run_storeCells_at P b off e cv.cells.toList 0 ⟨l⟩ w h1 (by simp at hvl ⊢; omega) (hvc.ones b3)
          have hsz : cv.cells.size = n := by rw [← Array.length_toList, ← hvl, b1]
          simp only [Nat.add_zero] at hst
          simp only [Instr.storeAt, Sem.run_bind, Instr.sureAddr, Sem.run_pure, Result.andThen_ok, storeVar, run_sizeOf hn, hsz, ne_eq, not_true_eq_false, if_false]
          rw [hst]
        · simp at h
      · simp at h
  · simp at h

/-! ## spending, and new ends -/
def SS.spend (s : SS) (k : Nat) : SS := { s with spent := fun j => if j = k then true else s.spent j }

theorem Inv.spend {base : Nat} {g : Gh} {s : SS} {w : World} (hi : Inv base g s w) {k : Nat} (hk : k < s.ctr) : Inv base g (s.spend k) w := by
  have un : ∀ j, (s.spend k).spent j = false → s.spent j = false ∧ j ≠ k := fun j h => by
    have h : (if j = k then true else s.spent j) = false := h
    split at h
    · simp at h
    · rename_i hne; exact ⟨h, hne⟩
  refine ⟨hi.size, hi.pub, hi.box, hi.boxat, hi.boxinj, fun j b o n h hs => hi.tok j b o n h (un j hs).1, fun j i b o n o' n' h1 h2 h3 h4 => hi.tokinj j i b o n o' n' h1 h2 (un j h3).1 (un i h4).1, fun j hj => ?_⟩
  obtain ⟨f1, f2, f3, f4⟩ := hi.fresh j hj
  have hj' : s.ctr ≤ j := hj
  exact ⟨f1, f2, by show (if j = k then true else s.spent j) = false; rw [if_neg (by omega)]; exact f3, f4⟩

/-- published: a piece of a block, and a new end of it -/
def Gh.end_ (g : Gh) (b p : Nat) (news : List Value) (k q n : Nat) : Gh :=
  { pub := fun b' o => if b' = b ∧ p ≤ o ∧ o < p + news.length then news[o - p]? else g.pub b' o
    box := g.box
    tok := fun j => if j = k then some (b, q, n) else g.tok j }

theorem Inv.end_ {base : Nat} {g : Gh} {s : SS} {w w' : World} (hi : Inv base g s w) {b p : Nat} {news : List Value} {L : List Value} {e : TypeId} (hsz : w.heap.size ≤ w'.heap.size)
    (hb : base ≤ b) (hw : w'.heap[b]? = some (.cells ⟨L⟩ e (0, 0))) (hother : ∀ b', b' < w.heap.size → b' ≠ b → w'.heap[b']? = w.heap[b']?)
    (hnew : ∀ i c, news[i]? = some c → L[p + i]? = some c) (hnone : ∀ o, p ≤ o → g.pub b o = none) (hold : ∀ o c, g.pub b o = some c → L[o]? = some c)
    (hbox : ∀ i, g.box i ≠ some b) (htok : ∀ k o n, g.tok k = some (b, o, n) → s.spent k = true) :
    Inv base (g.end_ b p news s.ctr (p + news.length) L.length) { s with ctr := s.ctr + 1 } w' ∧ g.le (g.end_ b p news s.ctr (p + news.length) L.length) := by
  obtain ⟨f1, f2, f3, f4⟩ := hi.fresh s.ctr (Nat.le_refl _)
  have lt : ∀ {b : Nat} {o : Obj}, w.heap[b]? = some o → b < w.heap.size := fun h => (Array.getElem?_eq_some_iff.1 h).1
  have hle : g.le (g.end_ b p news s.ctr (p + news.length) L.length) := by
    refine ⟨fun b' o c h => ?_, fun _ _ h => h, fun k x h => ?_⟩
    · show (if b' = b ∧ p ≤ o ∧ o < p + news.length then news[o - p]? else g.pub b' o) = some c
      split
      · rename_i hc
        obtain ⟨rfl, h1, h2⟩ := hc
        rw [hnone o h1] at h; simp at h
      · exact h
    · show (if k = s.ctr then _ else g.tok k) = some x
      rw [if_neg (fun e => by subst e; rw [f2] at h; simp at h)]; exact h
  have gt : ∀ k x, (g.end_ b p news s.ctr (p + news.length) L.length).tok k = some x → (k = s.ctr ∧ x = (b, p + news.length, L.length)) ∨ (k ≠ s.ctr ∧ g.tok k = some x) := fun k x h => by
    have h : (if k = s.ctr then some (b, p + news.length, L.length) else g.tok k) = some x := h
    split at h
    · rename_i hk; exact .inl ⟨hk, by simpa using h.symm⟩
    · rename_i hk; exact .inr ⟨hk, h⟩
  refine ⟨⟨Nat.le_trans hi.size hsz, fun b' o c h => ?_, fun i cs h => ?_, fun i b' h => ?_, hi.boxinj, fun k b' o n h hs => ?_, fun k j b' o n o' n' h1 h2 h3 h4 => ?_, fun k hk => ?_⟩, hle⟩
  · have q : (if b' = b ∧ p ≤ o ∧ o < p + news.length then news[o - p]? else g.pub b' o) = some c := h
    clear h
    split at q
    · rename_i hc
      obtain ⟨rfl, h1, h2⟩ := hc
      have := hnew _ _ q
      rw [show p + (o - p) = o from by omega] at this
      simp [World.cell?, hw, this]
    · by_cases hbb : b' = b
      · subst hbb
        simp [World.cell?, hw, hold o c q]
      · have := hi.pub _ _ _ q
        have hl := World.block_lt_of_cell? w _ this
        rw [World.cell?_of_block (w := w) (hother b' hl hbb)]; exact this
  · obtain ⟨b', l', e', h1, h2, h3⟩ := hi.box i cs h
    exact ⟨b', l', e', h1, by rw [hother b' (lt h2) (fun e => hbox i (e ▸ h1))]; exact h2, h3.mono hle⟩
  · obtain ⟨h1, h2, h3⟩ := hi.boxat i b' h
    refine ⟨h1, Nat.lt_of_lt_of_le h2 hsz, fun o => ?_⟩
    show (if b' = b ∧ p ≤ o ∧ o < p + news.length then news[o - p]? else g.pub b' o) = none
    have hne : b' ≠ b := fun e => hbox i (e ▸ h)
    rw [if_neg (fun hc : b' = b ∧ _ => hne hc.1)]; exact h3 o
  · rcases gt k _ h with ⟨rfl, e1⟩ | ⟨hk, q⟩
    · simp only [Prod.mk.injEq] at e1
      obtain ⟨rfl, rfl, rfl⟩ := e1
      refine ⟨hb, ⟨L, e, hw, rfl⟩, fun j hj => ?_, hbox⟩
      show (if _ ∧ p ≤ j ∧ j < p + news.length then news[j - p]? else g.pub _ j) = none
      rw [if_neg (by omega)]
      exact hnone j (by omega)
    · have hs' : s.spent k = false := hs
      obtain ⟨h1, ⟨l', e', h2, h2'⟩, h3, h4⟩ := hi.tok k b' o n q hs'
      have hne : b' ≠ b := fun e => by subst e; have := htok k o n q; rw [this] at hs'; simp at hs'
      refine ⟨h1, ⟨l', e', by rw [hother b' (lt h2) hne]; exact h2, h2'⟩, fun j hj => ?_, h4⟩
      show (if b' = b ∧ p ≤ j ∧ j < p + news.length then news[j - p]? else g.pub b' j) = none
      rw [if_neg (fun hc : b' = b ∧ _ => hne hc.1)]; exact h3 j hj
  · have h3' : s.spent k = false := h3
    have h4' : s.spent j = false := h4
    rcases gt k _ h1 with ⟨e1, q1⟩ | ⟨n1, q1⟩
    · rcases gt j _ h2 with ⟨e2, q2⟩ | ⟨n2, q2⟩
      · rw [e1, e2]
      · simp only [Prod.mk.injEq] at q1
        obtain ⟨rfl, _, _⟩ := q1
        have := htok j o' n' q2; rw [this] at h4'; simp at h4'
    · rcases gt j _ h2 with ⟨e2, q2⟩ | ⟨n2, q2⟩
      · simp only [Prod.mk.injEq] at q2
        obtain ⟨rfl, _, _⟩ := q2
        have := htok k o n q1; rw [this] at h3'; simp at h3'
      · exact hi.tokinj k j b' o n o' n' q1 q2 h3' h4'
  · have hk' : s.ctr + 1 ≤ k := hk
    obtain ⟨e1, e2, e3, e4⟩ := hi.fresh k (by omega)
    exact ⟨e1, by show (if k = s.ctr then _ else g.tok k) = none; rw [if_neg (by omega)]; exact e2, e3, e4⟩

end Go.Vm
