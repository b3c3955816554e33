/- Structs and slices that are built; zero values. -/
import Derived.Test.YtlmmgpmioaecnaaGreatDoorVmVal4
namespace Go.Vm
open Go Go.RowKit
theorem Je5 {P : Program} {t : TypeId} {z : V} (h : Q7 P t = some z) (g : Gh) : ∃ i c, P.info? t = some i ∧ i.zero = some c ∧ R g z c := by
 unfold Q7 at h
 split at h
 ·rename_i i hi
  split at h
  ·rename_i c hc
   exact ⟨i, c, hi, hc, Jky 3 _ _ h⟩
  ·simp at h
 ·simp at h
theorem JaF {P : Program} {t : TypeId} {z : V} (h : Q7 P t = some z) (g : Gh) : ∃ c, (∀ w, (zeroValue t).run P w = .ok c w) ∧ R g z c := by
 obtain ⟨i, c, h1, h2, h3⟩ := Je5 h g
 exact ⟨c, fun w => by simp [zeroValue, typeInfo, h1, h2], h3⟩
theorem Jhy {α β : Type} {P : Program} {w : World} (f : α → Sem β) (q : α → Option β) (hf : ∀ x y, q x = some y → (f x).run P w = .ok y w) :
  ∀ (l : List α) (r : List β), Jc q l = some r → (l.mapM f).run P w = .ok r w
 | [], r, h => by simp [Jc] at h; subst h; simp
 | x :: xs, r, h => by
  obtain ⟨y, ys, h1, h2, rfl⟩ := JaT h
  simp [List.mapM_cons, hf x y h1, Jhy f q hf xs ys h2]
theorem JlC {α β : Type} {P : Program} {w : World} (f : α → Sem β) (q : α → Option β) (hf : ∀ x y, q x = some y → (f x).run P w = .ok y w)
  (l : Array α) (r : List β) (h : Jc q l.toList = some r) : (l.mapM f).run P w = .ok ⟨r⟩ w := by
 rw [Array.mapM_eq_mapM_toList]
 simp [Jhy f q hf l.toList r h]
theorem JgU {P : Program} {fs : Array Field} {pl : List (Nat × Nat)} (h : JhY P fs.toList = some pl) (w : World) :
  (fs.mapM fun f => do pure (f.offset, ← sizeOf f.type) : Sem (Array (Nat × Nat))).run P w = .ok ⟨pl⟩ w := by
 refine JlC _ (fun (f : Field) => match JR P f.type with | some z => some (f.offset, z) | none => none) ?_ fs pl h
 intro f y hy
 split at hy
 ·rename_i z hz
  simp only [Option.some.injEq] at hy; subst hy
  simp [JF hz]
 ·simp at hy
theorem JiI {P : Program} {g : Gh} {t : TypeId} {ps : List (Nat × V)} {v : V} (h : JbO P t ps = some v) {cps : List (Nat × Value)} (hp : Ps g ps cps) (w : World) :
  ∃ c, (Instr.build t ⟨cps⟩).run P w = .ok c w ∧ R g v c := by
 unfold JbO at h
 split at h
 ·rename_i z fs hz hu
  obtain ⟨zc, hzr, hzR⟩ := JaF hz g
  split at h
  ·rename_i pl hpl
   split at h
   ·rename_i cs hf
    simp only [Option.some.injEq] at h; subst h
    obtain ⟨l', h1, h2⟩ := Jfj hf hp hzR.cells
    refine ⟨.agg ⟨l'⟩, ?_, .agg _ _ h2⟩
    have hpr := JgU hpl w
    have e : (fun (i : Nat) => (⟨pl⟩ : Array (Nat × Nat))[i]?) = fun (i : Nat) => pl[i]? := by funext i; simp
    simp only [Instr.build, Sem.run_bind, hzr, Result.andThen_ok, run_underlying hu]
    simp only [hpr, Result.andThen_ok, e]
    have h1' : Instr.fill (fun i => pl[i]?) zc.cells cps = some ⟨l'⟩ := h1
    rw [h1']
    rfl
   ·simp at h
  ·simp at h
 ·rename_i z n e hz hu
  obtain ⟨zc, hzr, hzR⟩ := JaF hz g
  split at h
  ·rename_i sz hsz
   split at h
   ·rename_i cs hf
    simp only [Option.some.injEq] at h; subst h
    obtain ⟨l', h1, h2⟩ := Jfj hf hp hzR.cells
    refine ⟨.agg ⟨l'⟩, ?_, .agg _ _ h2⟩
    simp only [Instr.build, Sem.run_bind, hzr, Result.andThen_ok, run_underlying hu, JF hsz]
    have h1' : Instr.fill (fun i => some (i * sz, sz)) zc.cells cps = some ⟨l'⟩ := h1
    rw [h1']
    rfl
   ·simp at h
  ·simp at h
 ·simp at h
def zerosC (z : List Value) : Nat → List Value
 | 0 => []
 | n + 1 => z ++ zerosC z n
theorem Je6 {g : Gh} {z : List V} {l : List Value} (h : Rs g z l) : ∀ n, Rs g (Jba z n) (zerosC l n)
 | 0 => .nil
 | n + 1 => h.app (Je6 h n)
theorem Jcr (z : List Value) : ∀ n, (zerosC z n).length = n * z.length
 | 0 => by simp [zerosC]
 | n + 1 => by simp [zerosC, Jcr z n, Nat.succ_mul, Nat.add_comm]
theorem Jfl (z : List Value) (hz : 0 < z.length) : ∀ (n i : Nat), i < n * z.length → (zerosC z n)[i]? = z[i % z.length]?
 | 0, i, h => by simp at h
 | n + 1, i, h => by
  simp only [zerosC, List.getElem?_append]
  split
  ·rename_i hlt
   rw [Nat.mod_eq_of_lt hlt]
  ·rename_i hge
   rw [Jfl z hz n _ (by rw [Nat.succ_mul] at h; omega)]
   congr 1
   exact (Nat.mod_eq_sub_mod (by omega)).symm
theorem Jdx (z : List Value) (n : Nat) (hz : 0 < z.length) : ((Array.range (n * z.length)).map fun i => (⟨z⟩ : Array Value)[i % (⟨z⟩ : Array Value).size]!) = ⟨zerosC z n⟩ := by
 apply Array.ext'
 apply List.ext_getElem?
 intro i
 by_cases hi : i < n * z.length
 ·rw [Jfl z hz n i hi]
  have hm : i % z.length < z.length := Nat.mod_lt _ hz
  simp [hi, hm]
 ·have h2 : (zerosC z n)[i]? = none := by rw [List.getElem?_eq_none_iff, Jcr]; omega
  rw [h2]
  simp; omega
theorem Inv.nopub {base : Nat} {g : Gh} {s : SS} {w : World} (hi : Inv base g s w) (o : Nat) : g.pub w.heap.size o = none := by
 cases h : g.pub w.heap.size o with
 | none => rfl
 | some c => exact absurd (World.block_lt_of_cell? w _ (hi.pub _ _ _ h)) (Nat.lt_irrefl _)
theorem JeX {P : Program} {g : Gh} {w : World} {t : TypeId} {n : Nat} {ps : List (Nat × V)} {cs : List V} {e : TypeId} {z : Nat} (h : Qc P t n ps = some (cs, e, z))
  {cps : List (Nat × Value)} (hp : Ps g ps cps) :
  ∃ l, (Instr.buildSlice t n ⟨cps⟩).run P w = .ok (.slice (some ⟨w.heap.size, 0, none⟩) n n) (w.alloc (.cells ⟨l⟩ e)) ∧ Rs g cs l := by
 unfold Qc at h
 split at h
 ·rename_i e' hu
  split at h
  ·rename_i z' zv hz hzv
   split at h
   ·rename_i hb
    obtain ⟨b1, b2⟩ := Jah hb
    have b1 := Nat.le_of_ble_eq_true b1
    have b2 := Nat.eq_of_beq_eq_true b2
    split at h
    ·rename_i cs' hf
     split at h
     ·simp only [Option.some.injEq, Prod.mk.injEq] at h
      obtain ⟨rfl, rfl, rfl⟩ := h
      obtain ⟨zc, hzr, hzR⟩ := JaF hzv g
      have hzc := hzR.cells
      have hzl : zc.cells.toList.length = z' := by rw [← hzc.len, b2]
      obtain ⟨l', h1, h2⟩ := Jfj hf hp (Je6 hzc n)
      refine ⟨l', ?_, h2⟩
      have hle : ¬ (n * z' > 2 ^ 24) := by omega
      simp only [Instr.buildSlice, Sem.run_bind, run_underlying hu, Result.andThen_ok, JF hz, if_neg hle]
      by_cases h0 : n * z' = 0
      ·have hz0 : zerosC zc.cells.toList n = [] := List.eq_nil_of_length_eq_zero (by rw [Jcr, hzl]; exact h0)
       rw [hz0] at h1
       rw [if_pos h0]
       simp only [h0, Sem.run_bind, Sem.run_pure, Result.andThen_ok]
       have e0 : (Array.map (fun x => (#[] : Array Value)[x % (#[] : Array Value).size]!) (Array.range 0)) = ⟨[]⟩ := by rw [Array.range_zero']; simp
       rw [e0, h1]
       simp [newRow]
      ·have hp0 : 0 < zc.cells.toList.length := by rw [hzl]; exact Nat.pos_of_ne_zero (fun e => h0 (by simp [e]))
       have hzc2 := Jdx zc.cells.toList n hp0
       rw [hzl] at hzc2
       rw [if_neg h0]
       simp only [Sem.run_bind, hzr, Sem.run_pure, Result.andThen_ok]
       have e0 : (Array.map (fun x => zc.cells[x % zc.cells.size]!) (Array.range (n * z'))) = ⟨zerosC zc.cells.toList n⟩ := hzc2
       rw [e0, h1]
       simp [newRow]
     ·simp at h
    ·simp at h
   ·simp at h
  ·simp at h
 ·simp at h
theorem Jhz {P : Program} {g : Gh} {x v : V} {asserted : TypeId} {ok : Bool} (h : Jg8 P x asserted ok = some v) {cx : Value} (hx : R g x cx) (xt : TypeId) (w : World) :
  ∃ c, (Instr.typeAssert cx xt asserted ok).run P w = .ok c w ∧ R g v c := by
 unfold Jg8 at h
 split at h
 ·rename_i want t u hu
  cases hx with
  | iface _ _ y hy =>
  split at h
  ·rename_i i hi
   split at h
   ·rename_i hm
    simp only [Option.some.injEq] at h; subst h
    exact ⟨.tuple #[.iface t y, .bool true], by simp [Instr.typeAssert, run_underlying hu, typeInfo, hi, hm], .tup _ _ (.cons _ _ _ _ (.iface _ _ _ hy) (.cons _ _ _ _ (.bool _) .nil))⟩
   ·rename_i hm
    simp only [Option.some.injEq] at h; subst h
    exact ⟨.iface t y, by simp [Instr.typeAssert, run_underlying hu, typeInfo, hi, hm], .iface _ _ _ hy⟩
   ·rename_i s hm
    split at h
    ·rename_i z hz
     simp only [Option.some.injEq] at h; subst h
     obtain ⟨zc, z1, z2⟩ := JaF hz g
     exact ⟨.tuple #[zc, .bool false], by simp [Instr.typeAssert, run_underlying hu, typeInfo, hi, hm, z1], .tup _ _ (.cons _ _ _ _ z2 (.cons _ _ _ _ (.bool _) .nil))⟩
    ·simp at h
   ·simp at h
  ·simp at h
 ·rename_i want hu
  cases hx
  split at h
  ·rename_i z hz
   simp only [Option.some.injEq] at h; subst h
   obtain ⟨zc, z1, z2⟩ := JaF hz g
   exact ⟨.tuple #[zc, .bool false], by simp [Instr.typeAssert, run_underlying hu, z1], .tup _ _ (.cons _ _ _ _ z2 (.cons _ _ _ _ (.bool _) .nil))⟩
  ·simp at h
 ·rename_i d t u hni hu
  cases hx with
  | iface _ _ y hy =>
  split at h
  ·rename_i ht
   have ht := Nat.eq_of_beq_eq_true ht
   subst ht
   simp only [Option.some.injEq] at h; subst h
   refine ⟨.tuple #[y, .bool true], ?_, .tup _ _ (.cons _ _ _ _ hy (.cons _ _ _ _ (.bool _) .nil))⟩
   cases d <;> first | (exact absurd rfl (hni _)) | simp [Instr.typeAssert, run_underlying hu]
  ·rename_i ht
   have ht := Nat.eq_of_beq_eq_true ht
   subst ht
   simp only [Option.some.injEq] at h; subst h
   refine ⟨y, ?_, hy⟩
   cases d <;> first | (exact absurd rfl (hni _)) | simp [Instr.typeAssert, run_underlying hu]
  ·rename_i ht
   have hne : ¬ t = asserted := fun e => by subst e; rw [Nat.beq_refl] at ht; simp at ht
   split at h
   ·rename_i z hz
    simp only [Option.some.injEq] at h; subst h
    obtain ⟨zc, z1, z2⟩ := JaF hz g
    refine ⟨.tuple #[zc, .bool false], ?_, .tup _ _ (.cons _ _ _ _ z2 (.cons _ _ _ _ (.bool _) .nil))⟩
    cases d <;> first | (exact absurd rfl (hni _)) | simp [Instr.typeAssert, run_underlying hu, hne, z1]
   ·simp at h
  ·simp at h
 ·rename_i d hni hu
  cases hx
  split at h
  ·rename_i z hz
   simp only [Option.some.injEq] at h; subst h
   obtain ⟨zc, z1, z2⟩ := JaF hz g
   refine ⟨.tuple #[zc, .bool false], ?_, .tup _ _ (.cons _ _ _ _ z2 (.cons _ _ _ _ (.bool _) .nil))⟩
   cases d <;> first | (exact absurd rfl (hni _)) | simp [Instr.typeAssert, run_underlying hu, z1]
  ·simp at h
 ·simp at h
theorem JgV {g : Gh} {d : TypeDesc} {a b : V} {r : Bool} (h : JcS d a b = some r) {ca cb : Value} (ha : R g a ca) (hb : R g b cb) : Instr.sameNow d ca cb = some r := by
 unfold JcS at h
 split at h
 ·cases ha; cases hb
  split at h
  ·rename_i hk
   have hk := of_decide_eq_true hk
   subst hk
   simp only [Option.some.injEq] at h; subst h
   simp [Instr.sameNow]
  ·simp at h
 ·cases ha; cases hb
  simp only [Option.some.injEq] at h; subst h
  rw [S.same_eq]
  simp only [Instr.sameNow]
  congr 1
  rename_i x y
  show ((⟨x.toList⟩ : Array UInt8) == ⟨y.toList⟩) = (x.toList == y.toList)
  rw [Bool.eq_iff_iff]
  simp
 ·simp at h
theorem Jcs {d : TypeDesc} {a b : V} {r : Bool} (h : JcS d a b = some r) : (∃ k, d = .int k) ∨ d = .string := by
 unfold JcS at h
 split at h
 ·exact .inl ⟨_, rfl⟩
 ·exact .inr rfl
 ·simp at h
theorem Jga {P : Program} {kt : TypeId} {d : TypeDesc} (hd : P.underlying kt = some d) (hk : (∃ k, d = .int k) ∨ d = .string) (em : Bool) (n : Nat) (c : Value) (w : World) : (Instr.checkKey em (n + 1) kt c).run P w = .ok () w := by
 simp only [Instr.checkKey, Sem.run_bind, run_underlying hd, Result.andThen_ok]
 rcases hk with ⟨k, rfl⟩ | rfl <;> cases c <;> rfl
theorem Jbz {P : Program} {kt : TypeId} {d : TypeDesc} (hd : P.underlying kt = some d) (hk : (∃ k, d = .int k) ∨ d = .string) (em : Bool) (c : Value) (w : World) : (Instr.checkKey em 10000 kt c).run P w = .ok () w :=
 Jga hd hk em 9999 c w
theorem JdM {g : Gh} {d : TypeDesc} {k : V} {ck : Value} (hk : R g k ck) : ∀ (l : List (V × V × Nat)) (i : Nat) (es : List MapEntry) (r : Option (Nat × V)), JeG d k l i = some r → Es g l es →
  ∃ r', Instr.findNow d ck es i = some r' ∧ (match r, r' with
   | none, none => True
   | some (j, v), some (j', c) => j = j' ∧ R g v c
   | _, _ => False)
 | [], i, es, r, h, he => by
  have : es = [] := List.eq_nil_of_length_eq_zero (by simpa using he.1.symm)
  subst this
  simp only [JeG, Option.some.injEq] at h; subst h
  exact ⟨none, rfl, trivial⟩
 | (k', v, n) :: l, i, es, r, h, he => by
  cases es with
  | nil => have := he.1; simp at this
  | cons e es =>
   obtain ⟨e', h1, h2, h3, h4⟩ := he.2 0 k' v n rfl
   simp only [List.getElem?_cons_zero, Option.some.injEq] at h1
   subst h1
   simp only [JeG] at h
   split at h
   ·rename_i hs
    simp only [Option.some.injEq] at h; subst h
    exact ⟨some (i, e.val), by simp [Instr.findNow, JgV hs hk h2], rfl, h3⟩
   ·rename_i hs
    obtain ⟨r', q1, q2⟩ := JdM hk l (i + 1) es r h ⟨by have := he.1; simpa using this, fun j a b m hj => by
     obtain ⟨e', p1, p2⟩ := he.2 (j + 1) a b m (by simpa using hj)
     exact ⟨e', by simpa using p1, p2⟩⟩
    exact ⟨r', by simp [Instr.findNow, JgV hs hk h2, q1], q2⟩
   ·simp at h
theorem Inv.entries {base : Nat} {g : Gh} {s : SS} {w : World} (hi : Inv base g s w) {i : Nat} {l : List (V × V × Nat)} {clock : Nat} (h : s.box i = some (.entries l clock)) {b o bs : Nat} (hb : g.box i = some (b, o, bs)) :
  ∃ es, w.heap[b]? = some (.map es clock) ∧ Es g l es.toList := by
 obtain ⟨b', o', bs', m, h1, h2, h3⟩ := hi.box i _ h
 have e1 : (b', o', bs') = (b, o, bs) := by rw [h1] at hb; simpa using hb
 simp only [Prod.mk.injEq] at e1
 obtain ⟨rfl, rfl, rfl⟩ := e1
 cases h3 with
 | entries _ _ es he => exact ⟨es, h2, he⟩
theorem JhA {P : Program} {base : Nat} {g : Gh} {st : St} {w : World} (hi : Inv base g st.abs w) {t : TypeId} {x k v : V} {ok : Bool} (h : Jdb P st t x k ok = some v) {cx ck : Value} (hx : R g x cx) (hk : R g k ck) :
  ∃ c, (Instr.lookup t cx ck ok).run P w = .ok c w ∧ R g v c := by
 unfold Jdb at h
 split at h
 ·rename_i kt et hu
  split at h
  ·rename_i d l hd hl
   have key : ∃ es : Array MapEntry, Es g l es.toList ∧ ((cx = .map none ∧ es = #[]) ∨ ∃ b clock, cx = .map (some b) ∧ w.heap[b]? = some (.map es clock)) := by
    split at hl
    ·simp only [Option.some.injEq] at hl; subst hl
     cases hx
     exact ⟨#[], ⟨rfl, fun i a b n hi => by simp at hi⟩, .inl ⟨rfl, rfl⟩⟩
    ·rename_i id
     split at hl
     ·rename_i l' clock hcs
      simp only [Option.some.injEq] at hl; subst hl
      cases hx with
      | mapp _ b o bs hb =>
       obtain ⟨es, h1, h2⟩ := hi.entries (i := id) hcs hb
       exact ⟨es, h2, .inr ⟨b, clock, rfl, h1⟩⟩
     ·simp at hl
    ·simp at hl
   obtain ⟨es, he, hcx⟩ := key
   have fin : ∀ (v1 : V) (c1 : Value) (b1 : Bool), R g v1 c1 → v = okV ok v1 b1 → R g v (if ok then .tuple #[c1, .bool b1] else c1) := by
    rintro v1 c1 b1 hv rfl
    cases ok
    ·exact hv
    ·exact .tup _ _ (.cons _ _ _ _ hv (.cons _ _ _ _ (.bool _) .nil))
   split at h
   ·rename_i i v1 hs hf
    simp only [Option.some.injEq] at h
    obtain ⟨r', q1, q2⟩ := JdM hk l 0 es.toList _ hf he
    cases r' with
    | none => exact q2.elim
    | some p =>
     obtain ⟨j, c1⟩ := p
     refine ⟨_, ?_, fin v1 c1 true q2.2 h.symm⟩
     have hc := fun em => Jbz hd (Jcs hs) em ck w
     rcases hcx with ⟨rfl, rfl⟩ | ⟨b, clock, rfl, hb⟩
     ·simp only [Instr.lookup, Sem.run_bind, run_underlying hu, Result.andThen_ok, Sem.run_pure, hc, Instr.findKey, run_underlying hd, q1]
     ·have hg : (getObj b).run P w = .ok (.map es clock) w := by simp [getObj, Sem.run, hb]
      simp only [Instr.lookup, Sem.run_bind, run_underlying hu, Result.andThen_ok, Sem.run_pure, hg, hc, Instr.findKey, run_underlying hd, q1]
   ·rename_i hs hf
    split at h
    ·rename_i z hz
     simp only [Option.some.injEq] at h
     obtain ⟨zc, z1, z2⟩ := JaF hz g
     obtain ⟨r', q1, q2⟩ := JdM hk l 0 es.toList _ hf he
     cases r' with
     | some p => exact q2.elim
     | none =>
      refine ⟨_, ?_, fin z zc false z2 h.symm⟩
      have hc := fun em => Jbz hd (Jcs hs) em ck w
      rcases hcx with ⟨rfl, rfl⟩ | ⟨b, clock, rfl, hb⟩
      ·simp only [Instr.lookup, Sem.run_bind, run_underlying hu, Result.andThen_ok, Sem.run_pure, hc, Instr.findKey, run_underlying hd, q1, z1]
      ·have hg : (getObj b).run P w = .ok (.map es clock) w := by simp [getObj, Sem.run, hb]
       simp only [Instr.lookup, Sem.run_bind, run_underlying hu, Result.andThen_ok, Sem.run_pure, hg, hc, Instr.findKey, run_underlying hd, q1, z1]
    ·simp at h
   ·simp at h
  ·simp at h
 ·simp at h
end Go.Vm
