/- The evaluator's values and states against the model's: the relation, and its first laws. -/
import Derived.Test.YtlmmgpmioaecnaaGreatDoorVmDef
import Derived.WalkKit
import Derived.WalkLawsBesides
import Derived.RangeFuncRecord
namespace Go.Vm
open Go Go.RowKit
theorem Tr.get_set {α : Type} (x : Option α) : ∀ (f : Nat) (t : Tr α) (n m : Nat), n < f → (Tr.set f t n x).get m = if m = n then x else t.get m := by
 intro f
 induction f with
 | zero => intro t n m h; omega
 | succ f ih =>
  intro t n m h
  have key : ∀ (k : Nat), (Nat.beq k 0 = true ↔ k = 0) := fun k => by simp []
  have bz : ∀ (k : Nat), k ≠ 0 → Nat.beq k 0 = false := fun k hk => by
   cases hb : Nat.beq k 0 with
   | false => rfl
   | true => exact absurd ((key k).1 hb) hk
  have odd1 : ∀ k : Nat, k % 2 = 1 → Nat.beq (Nat.mod k 2) 1 = true := fun k hk => by
   show Nat.beq (k % 2) 1 = true; rw [hk]; rfl
  have odd0 : ∀ k : Nat, ¬ k % 2 = 1 → Nat.beq (Nat.mod k 2) 1 = false := fun k hk => by
   show Nat.beq (k % 2) 1 = false
   have : k % 2 = 0 := by omega
   rw [this]; rfl
  have dv : ∀ k : Nat, Nat.div k 2 = k / 2 := fun _ => rfl
  have pr : ∀ k : Nat, Nat.pred k = k - 1 := fun _ => rfl
  cases t with
  | nil =>
   by_cases hn : n = 0
   ·subst hn
    by_cases hm : m = 0
    ·subst hm; simp [Tr.set, Tr.get]
    ·by_cases h1 : m % 2 = 1
     ·simp [Tr.set, Tr.get, bz m hm, odd1 m h1, hm]
     ·simp [Tr.set, Tr.get, bz m hm, odd0 m h1, hm]
   ·by_cases h1 : n % 2 = 1
    ·by_cases hm : m = 0
     ·subst hm; simp [Tr.set, Tr.get, bz n hn, odd1 n h1, Ne.symm hn]
     ·by_cases h2 : m % 2 = 1
      ·simp only [Tr.set, Tr.get, bz n hn, odd1 n h1, bz m hm, odd1 m h2, dv]
       rw [ih _ _ _ (by omega)]
       have : (m / 2 = n / 2) ↔ m = n := by omega
       simp only [this, Tr.get]
      ·have hne : ¬ m = n := by omega
       simp [Tr.set, Tr.get, bz n hn, odd1 n h1, bz m hm, odd0 m h2, hne]
    ·by_cases hm : m = 0
     ·subst hm; simp [Tr.set, Tr.get, bz n hn, odd0 n h1, Ne.symm hn]
     ·by_cases h2 : m % 2 = 1
      ·have hne : ¬ m = n := by omega
       simp [Tr.set, Tr.get, bz n hn, odd0 n h1, bz m hm, odd1 m h2, hne]
      ·simp only [Tr.set, Tr.get, bz n hn, odd0 n h1, bz m hm, odd0 m h2, dv, pr]
       rw [ih _ _ _ (by omega)]
       have : (m / 2 - 1 = n / 2 - 1) ↔ m = n := by omega
       simp only [this, Tr.get]
  | node l v r =>
   by_cases hn : n = 0
   ·subst hn
    by_cases hm : m = 0
    ·subst hm; simp [Tr.set, Tr.get]
    ·by_cases h1 : m % 2 = 1
     ·simp [Tr.set, Tr.get, bz m hm, odd1 m h1, hm]
     ·simp [Tr.set, Tr.get, bz m hm, odd0 m h1, hm]
   ·by_cases h1 : n % 2 = 1
    ·by_cases hm : m = 0
     ·subst hm; simp [Tr.set, Tr.get, bz n hn, odd1 n h1, Ne.symm hn]
     ·by_cases h2 : m % 2 = 1
      ·simp only [Tr.set, Tr.get, bz n hn, odd1 n h1, bz m hm, odd1 m h2, dv]
       rw [ih _ _ _ (by omega)]
       have : (m / 2 = n / 2) ↔ m = n := by omega
       simp only [this]
      ·have hne : ¬ m = n := by omega
       simp [Tr.set, Tr.get, bz n hn, odd1 n h1, bz m hm, odd0 m h2, hne]
    ·by_cases hm : m = 0
     ·subst hm; simp [Tr.set, Tr.get, bz n hn, odd0 n h1, Ne.symm hn]
     ·by_cases h2 : m % 2 = 1
      ·have hne : ¬ m = n := by omega
       simp [Tr.set, Tr.get, bz n hn, odd0 n h1, bz m hm, odd1 m h2, hne]
      ·simp only [Tr.set, Tr.get, bz n hn, odd0 n h1, bz m hm, odd0 m h2, dv, pr]
       rw [ih _ _ _ (by omega)]
       have : (m / 2 - 1 = n / 2 - 1) ↔ m = n := by omega
       simp only [this]
theorem Tr.get_put {α : Type} (t : Tr α) (n : Nat) (x : α) (m : Nat) : (t.put n x).get m = if m = n then some x else t.get m :=
 Tr.get_set (some x) (n + 1) t n m (Nat.lt_succ_self n)
theorem Tr.get_del {α : Type} (t : Tr α) (n : Nat) (m : Nat) : (t.del n).get m = if m = n then none else t.get m :=
 Tr.get_set none (n + 1) t n m (Nat.lt_succ_self n)
structure Gh where
 pub : Nat → Nat → Option Value
 box : Nat → Option (Nat × Nat × Nat)
structure Gh.le (g g' : Gh) : Prop where
 pub : ∀ b o c, g.pub b o = some c → g'.pub b o = some c
 box : ∀ i b, g.box i = some b → g'.box i = some b
theorem Gh.le.refl (g : Gh) : g.le g := ⟨fun _ _ _ h => h, fun _ _ h => h⟩
theorem Gh.le.trans {a b c : Gh} (h : a.le b) (k : b.le c) : a.le c :=
 ⟨fun _ _ _ x => k.pub _ _ _ (h.pub _ _ _ x), fun _ _ x => k.box _ _ (h.box _ _ x)⟩
def Gh.has (g : Gh) (b o : Nat) (l : List Value) : Prop := ∀ i c, l[i]? = some c → g.pub b (o + i) = some c
def capOk (cap : Option Nat) (q c z bs : Nat) : Prop :=
 match cap with
 | some k => c = k
 | none => q + c * z = bs
mutual
inductive R (g : Gh) : V → Value → Prop
 | bool (b : Bool) : R g (.bool b) (.bool b)
 | int (k : IntKind) (n : Int) : R g (.int k n) (.int k n)
 | str (s : S) : R g (.str s) (.string ⟨⟨s.toList⟩⟩)
 | nilp : R g .nilp (.pointer none)
 | nils : R g .nils (.slice none 0 0)
 | nilf : R g .nilf .nilFunc
 | nili : R g .nili .nilIface
 | nilm : R g .nilm (.map none)
 | sl (n : Nat) (cells : List V) (ex : Bool) (b o cap : Nat) (l : List Value) (hr : Rs g cells l) (hp : g.has b o l) (hc : n ≤ cap) (he : ex = true → cap = n) :
   R g (.sl n cells ex) (.slice (some ⟨b, o, none⟩) n cap)
 | sl0 (ex : Bool) (a : Addr) (cap : Nat) (he : ex = true → cap = 0) : R g (.sl 0 [] ex) (.slice (some a) 0 cap)
 | ms (id off n z : Nat) (cap : Option Nat) (b o bs co c : Nat) (hb : g.box id = some (b, o, bs)) (hc : n ≤ c) (ho : c = 0 ∨ co = o + off) (hk : capOk cap (o + off) c z bs) :
   R g (.ms id off n z cap) (.slice (some ⟨b, co, none⟩) n c)
 | cp (cells : List V) (b o : Nat) (l : List Value) (hr : Rs g cells l) (hp : g.has b o l) : R g (.cp cells) (.pointer (some ⟨b, o, none⟩))
 | ptr (id off b o bs : Nat) (hb : g.box id = some (b, o, bs)) : R g (.ptr id off) (.pointer (some ⟨b, o + off, none⟩))
 | agg (cells : List V) (l : List Value) (hr : Rs g cells l) : R g (.agg cells) (.agg ⟨l⟩)
 | tup (vs : List V) (l : List Value) (hr : Rs g vs l) : R g (.tup vs) (.tuple ⟨l⟩)
 | fn (f : FuncId) (a b : List V) (la lb : List Value) (ha : Rs g a la) (hb : Rs g b lb) : R g (.fn f a b) (.func (.func f) ⟨la⟩ ⟨lb⟩)
 | yld (id b o bs : Nat) (hb : g.box id = some (b, o, bs)) : R g (.yld id) (.func (.yield b) #[] #[])
 | mapp (id b o bs : Nat) (hb : g.box id = some (b, o, bs)) : R g (.mapp id) (.map (some b))
 | iface (t : TypeId) (x : V) (y : Value) (h : R g x y) : R g (.iface t x) (.iface t y)
inductive Rs (g : Gh) : List V → List Value → Prop
 | nil : Rs g [] []
 | cons (v : V) (c : Value) (vs : List V) (cs : List Value) (h : R g v c) (hs : Rs g vs cs) : Rs g (v :: vs) (c :: cs)
end
theorem Gh.has.mono {g g' : Gh} (hl : g.le g') {b o : Nat} {l : List Value} (h : g.has b o l) : g'.has b o l := fun i c hi => hl.pub _ _ _ (h i c hi)
mutual
theorem R.mono {g g' : Gh} (hl : g.le g') : ∀ {v : V} {c : Value}, R g v c → R g' v c
 | _, _, .bool b => .bool b
 | _, _, .int k n => .int k n
 | _, _, .str l => .str l
 | _, _, .nilp => .nilp
 | _, _, .nils => .nils
 | _, _, .nilf => .nilf
 | _, _, .nili => .nili
 | _, _, .nilm => .nilm
 | _, _, .sl n cells ex b o cap l hr hp hc ht => .sl n cells ex b o cap l (Rs.mono hl hr) (hp.mono hl) hc ht
 | _, _, .sl0 ex a cap he => .sl0 ex a cap he
 | _, _, .ms id off n z cap b o bs co c hb hc ho hk => .ms id off n z cap b o bs co c (hl.box _ _ hb) hc ho hk
 | _, _, .cp cells b o l hr hp => .cp cells b o l (Rs.mono hl hr) (hp.mono hl)
 | _, _, .ptr id off b o bs hb => .ptr id off b o bs (hl.box _ _ hb)
 | _, _, .agg cells l hr => .agg cells l (Rs.mono hl hr)
 | _, _, .tup vs l hr => .tup vs l (Rs.mono hl hr)
 | _, _, .fn f a b la lb ha hb => .fn f a b la lb (Rs.mono hl ha) (Rs.mono hl hb)
 | _, _, .yld id b o bs hb => .yld id b o bs (hl.box _ _ hb)
 | _, _, .mapp id b o bs hb => .mapp id b o bs (hl.box _ _ hb)
 | _, _, .iface t x y h => .iface t x y (R.mono hl h)
theorem Rs.mono {g g' : Gh} (hl : g.le g') : ∀ {vs : List V} {cs : List Value}, Rs g vs cs → Rs g' vs cs
 | _, _, .nil => .nil
 | _, _, .cons v c vs cs h hs => .cons v c vs cs (R.mono hl h) (Rs.mono hl hs)
end
theorem Rs.len {g : Gh} : ∀ {vs : List V} {cs : List Value}, Rs g vs cs → vs.length = cs.length
 | _, _, .nil => rfl
 | _, _, .cons _ _ _ _ _ hs => by simp [hs.len]
theorem Rs.get {g : Gh} : ∀ {vs : List V} {cs : List Value}, Rs g vs cs → ∀ (i : Nat) (v : V), vs[i]? = some v → ∃ c, cs[i]? = some c ∧ R g v c
 | _, _, .nil, i, v, h => by simp at h
 | _, _, .cons x c xs cs hx hs, 0, v, h => by simp at h; subst h; exact ⟨c, rfl, hx⟩
 | _, _, .cons x c xs cs hx hs, i + 1, v, h => by
  simp at h
  obtain ⟨c', h1, h2⟩ := hs.get i v h
  exact ⟨c', by simpa using h1, h2⟩
theorem Rs.app {g : Gh} : ∀ {xs : List V} {cs : List Value} {ys : List V} {ds : List Value}, Rs g xs cs → Rs g ys ds → Rs g (xs ++ ys) (cs ++ ds)
 | _, _, _, _, .nil, h => h
 | _, _, _, _, .cons x c xs cs hx hs, h => .cons _ _ _ _ hx (hs.app h)
theorem Rs.take {g : Gh} : ∀ {xs : List V} {cs : List Value} (n : Nat), Rs g xs cs → Rs g (xs.take n) (cs.take n)
 | _, _, 0, _ => by simpa using Rs.nil
 | _, _, _ + 1, .nil => by simpa using Rs.nil
 | _, _, n + 1, .cons x c xs cs hx hs => by simpa using Rs.cons _ _ _ _ hx (hs.take n)
theorem Rs.drop {g : Gh} : ∀ {xs : List V} {cs : List Value} (n : Nat), Rs g xs cs → Rs g (xs.drop n) (cs.drop n)
 | _, _, 0, h => by simpa using h
 | _, _, _ + 1, .nil => by simpa using Rs.nil
 | _, _, n + 1, .cons x c xs cs hx hs => by simpa using hs.drop n
theorem Rs.sub {g : Gh} {xs : List V} {cs : List Value} (h : Rs g xs cs) (o n : Nat) : Rs g (Vm.sub xs o n) ((cs.drop o).take n) := (h.drop o).take n
theorem Gh.has.drop {g : Gh} {b o : Nat} {l : List Value} (h : g.has b o l) (n : Nat) : g.has b (o + n) (l.drop n) := fun i c hi => by
 rw [List.getElem?_drop] at hi
 have := h _ _ hi
 rwa [Nat.add_assoc]
theorem Gh.has.take {g : Gh} {b o : Nat} {l : List Value} (h : g.has b o l) (n : Nat) : g.has b o (l.take n) := fun i c hi => by
 rw [List.getElem?_take] at hi
 split at hi
 ·exact h _ _ hi
 ·simp at hi
theorem JnC {g : Gh} {v : V} {c : Value} (h : R g v c) (ho : Ju v = true) : c.oneCell' = true := by
 cases h <;> simp_all [Ju, Value.oneCell']
theorem Rs.ones {g : Gh} : ∀ {vs : List V} {cs : List Value}, Rs g vs cs → vs.all Ju = true → ∀ c ∈ cs, c.oneCell' = true
 | _, _, .nil, _, c, h => by simp at h
 | _, _, .cons x d xs ds hx hs, ho, c, h => by
  simp only [List.all_cons, Bool.and_eq_true] at ho
  rcases List.mem_cons.1 h with rfl | h
  ·exact JnC hx ho.1
  ·exact hs.ones ho.2 c h
theorem R.cells {g : Gh} {v : V} {c : Value} (h : R g v c) : Rs g v.cells c.cells.toList := by
 have h' := h
 cases h with
 | agg cells l hr => simpa [V.cells, Value.cells] using hr
 | _ => exact .cons _ _ _ _ h' .nil
def Tr.at (t : Tr V) (k : Nat) : V :=
 match t.get k with
 | some v => v
 | none => .undef
def Es (g : Gh) (l : List (V × V × Nat)) (es : List MapEntry) : Prop :=
 l.length = es.length ∧ ∀ (i : Nat) (k v : V) (n : Nat), l[i]? = some (k, v, n) → ∃ e : MapEntry, es[i]? = some e ∧ R g k e.key ∧ R g v e.val ∧ e.born = n
def fzR (fz : Option Nat) (o len : Nat) (f : Nat × Nat) : Prop :=
 match fz with
 | some k => f.2 ≤ o + k
 | none => len ≤ f.1 ∨ f.2 = 0
inductive BR (g : Gh) (o bs : Nat) : Bx → Obj → Prop
 | cells (cs : List V) (e : TypeId) (full : Bool) (fz : Option Nat) (pre mid rest : List Value) (f : Nat × Nat) (ho : pre.length = o) (hr : Rs g cs mid) (hs : (pre ++ mid ++ rest).length = bs)
   (hf : full = true → o = 0 ∧ rest = []) (hz : fzR fz o bs f) : BR g o bs (.cells cs e full fz) (.cells ⟨pre ++ mid ++ rest⟩ e f)
 | loop (t : Tr V) (m : Loop) (N : Nat) (hN : m.tmps.size = N) (ht : ∀ k, R g (t.at k) (m.tmps.getD k Go.undef)) (ha : JV N m.assign = true) (hb : JV N m.body = true) (hp : ∀ p ∈ m.params.toList, p < N) :
   BR g o bs (.loop m.state m.pending t m.params.toList m.assign m.body) (.loop m)
 | opened : BR g o bs (.mark false) (.deferred (some []))
 | shut : BR g o bs (.mark true) (.deferred none)
 | entries (l : List (V × V × Nat)) (clock : Nat) (es : Array MapEntry) (h : Es g l es.toList) : BR g o bs (.entries l clock) (.map es clock)
 | iter (s : S) (pos : Nat) (ho : o = 0) : BR g o bs (.iter s pos) (.stringIter ⟨⟨s.toList⟩⟩ pos)
theorem BR.mono {g g' : Gh} (hl : g.le g') {o bs : Nat} {x : Bx} {m : Obj} (h : BR g o bs x m) : BR g' o bs x m := by
 cases h with
 | cells cs e full fz pre mid rest f ho hr hs hf hz => exact .cells cs e full fz pre mid rest f ho (hr.mono hl) hs hf hz
 | loop t m N hN ht ha hb hp => exact .loop t m N hN (fun k => (ht k).mono hl) ha hb hp
 | opened => exact .opened
 | shut => exact .shut
 | entries l clock es h =>
  refine .entries _ _ _ ⟨h.1, fun i k v n hi => ?_⟩
  obtain ⟨e, h1, h2, h3, h4⟩ := h.2 i k v n hi
  exact ⟨e, h1, h2.mono hl, h3.mono hl, h4⟩
 | iter s pos ho => exact .iter s pos ho
structure SS where
 ctr : Nat
 box : Nat → Option Bx
def St.abs (st : St) : SS := { ctr := st.ctr, box := st.box.get }
structure Inv (base : Nat) (g : Gh) (s : SS) (w : World) : Prop where
 size : base ≤ w.heap.size
 pub : ∀ b o c, g.pub b o = some c → w.cell? ⟨b, o, none⟩ = some c
 box : ∀ i x, s.box i = some x → ∃ b o bs m, g.box i = some (b, o, bs) ∧ w.heap[b]? = some m ∧ BR g o bs x m
 boxat : ∀ i b o bs, g.box i = some (b, o, bs) → base ≤ b ∧ b < w.heap.size ∧ ∀ o, g.pub b o = none
 boxinj : ∀ i j x y b o bs o' bs', s.box i = some x → s.box j = some y → g.box i = some (b, o, bs) → g.box j = some (b, o', bs') → i = j
 fresh : ∀ k, s.ctr ≤ k → g.box k = none ∧ s.box k = none
def Own (g : Gh) (s : SS) (b : Nat) : Prop := ∃ i x o bs, s.box i = some x ∧ g.box i = some (b, o, bs)
structure Ext (base : Nat) (g : Gh) (s : SS) (w : World) (g' : Gh) (s' : SS) (w' : World) : Prop where
 le : g.le g'
 ctr : s.ctr ≤ s'.ctr
 below : Below base w w'
 own : ∀ b, b < w.heap.size → ¬ Own g s b → w'.heap[b]? = w.heap[b]?
 noth : ∀ b, b < w.heap.size → Own g' s' b → Own g s b
 keep : ∀ i, i < s.ctr → s.box i = none → s'.box i = none ∧ g'.box i = g.box i
theorem Ext.refl (base : Nat) (g : Gh) (s : SS) (w : World) : Ext base g s w g s w :=
 ⟨.refl g, Nat.le_refl _, .refl _ _, fun _ _ _ => rfl, fun _ _ h => h, fun _ _ h => ⟨h, rfl⟩⟩
theorem Ext.trans {base : Nat} {g1 g2 g3 : Gh} {s1 s2 s3 : SS} {w1 w2 w3 : World} (h : Ext base g1 s1 w1 g2 s2 w2) (k : Ext base g2 s2 w2 g3 s3 w3) : Ext base g1 s1 w1 g3 s3 w3 := by
 refine ⟨h.le.trans k.le, Nat.le_trans h.ctr k.ctr, h.below.trans k.below, fun b hb ho => ?_, fun b hb ho => ?_, fun i hi hn => ?_⟩
 ·have h2 : ¬ Own g2 s2 b := fun x => ho (h.noth b hb x)
  rw [k.own b (Nat.lt_of_lt_of_le hb h.below.size) h2, h.own b hb ho]
 ·exact h.noth b hb (k.noth b (Nat.lt_of_lt_of_le hb h.below.size) ho)
 ·obtain ⟨a1, a2⟩ := h.keep i hi hn
  obtain ⟨b1, b2⟩ := k.keep i (Nat.lt_of_lt_of_le hi h.ctr) a1
  exact ⟨b1, b2.trans a2⟩
inductive DR (g : Gh) : Df → Deferred → Prop
 | call (f : FuncId) (vs : List V) (cap args : Array Value) (h : Rs g vs (args.toList ++ cap.toList)) : DR g (.call f vs) { target := .fn (.func f) cap, args := args }
 | mark (id b o bs : Nat) (hb : g.box id = some (b, o, bs)) : DR g (.mark id) { target := .collected b, args := #[] }
theorem DR.mono {g g' : Gh} (hl : g.le g') {x : Df} {d : Deferred} (h : DR g x d) : DR g' x d := by
 cases h with
 | call f vs cap args h => exact .call _ _ _ _ (h.mono hl)
 | mark id b o bs hb => exact .mark _ _ _ _ (hl.box _ _ hb)
inductive DRs (g : Gh) : List Df → List Deferred → Prop
 | nil : DRs g [] []
 | cons (x : Df) (d : Deferred) (xs : List Df) (ds : List Deferred) (h : DR g x d) (hs : DRs g xs ds) : DRs g (x :: xs) (d :: ds)
theorem DRs.mono {g g' : Gh} (hl : g.le g') : ∀ {xs : List Df} {ds : List Deferred}, DRs g xs ds → DRs g' xs ds
 | _, _, .nil => .nil
 | _, _, .cons _ _ _ _ h hs => .cons _ _ _ _ (h.mono hl) (hs.mono hl)
def GlV (g : Gh) (gl : Gl) : Prop := ∀ k cs, gl.get k = some cs → ∃ l, Rs g cs l ∧ g.has k 0 l
theorem GlV.mono {g g' : Gh} (hl : g.le g') {gl : Gl} (h : GlV g gl) : GlV g' gl := fun k cs hk => by
 obtain ⟨l, h1, h2⟩ := h k cs hk
 exact ⟨l, h1.mono hl, h2.mono hl⟩
structure GlR [Memo] (g : Gh) (gl : Gl) : Prop where
 at_ : GlV g gl
 only : Memo.only gl
theorem GlR.mono [Memo] {g g' : Gh} (hl : g.le g') {gl : Gl} (h : GlR g gl) : GlR g' gl := ⟨h.at_.mono hl, h.only⟩
structure FR [Memo] (g : Gh) (N : Nat) (fr : Fr) (a : Act) : Prop where
 size : a.tmps.size = N
 defers : DRs g fr.ds a.defers
 gl : GlR g fr.gl
 at_ : ∀ t, R g (Fr.at fr t) (a.tmps.getD t Go.undef)
theorem FR.mono [Memo] {g g' : Gh} (hl : g.le g') {N : Nat} {fr : Fr} {a : Act} (h : FR g N fr a) : FR g' N fr a := ⟨h.size, h.defers.mono hl, h.gl.mono hl, fun t => (h.at_ t).mono hl⟩
theorem R.undef (g : Gh) : R g V.undef Go.undef := .tup [] [] .nil
theorem FR.to [Memo] {g : Gh} {N : Nat} {fr : Fr} {a : Act} (h : FR g N fr a) {o : Oper} (hd : Jck N o = true) {v : V} {c : Value} (hv : R g v c) : FR g N (Fr.to fr o.dst v) (a.put o.dst c) := by
 unfold Jck at hd
 cases ho : o.dst with
 | none => simpa [Fr.to, Act.put] using h
 | some d =>
  rw [ho] at hd
  have hd' : d < N := by simpa [Nat.blt_eq] using hd
  refine ⟨by simp [Act.put, h.size], by simpa [Act.put, Fr.to] using h.defers, h.gl, fun t => ?_⟩
  have e : Fr.at (Fr.to fr (some d) v) t = if t = d then v else Fr.at fr t := by
   simp only [Fr.to, Fr.at, Tr.get_put]
   by_cases htd : t = d <;> simp [htd]
  rw [e]
  by_cases htd : t = d
  ·subst htd
   simp [Act.put, Array.getD, h.size, hd', hv]
  ·have := h.at_ t
   simp only [htd, if_false]
   have e2 : (a.put (some d) c).tmps.getD t Go.undef = a.tmps.getD t Go.undef := by
    simp only [Act.put, Array.getD_eq_getD_getElem?]
    rw [Array.getElem?_setIfInBounds_ne (Ne.symm htd)]
   rw [e2]; exact this
end Go.Vm
