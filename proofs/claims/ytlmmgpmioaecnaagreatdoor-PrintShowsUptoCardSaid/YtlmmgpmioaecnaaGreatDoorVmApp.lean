/- Append, make, calls without a body. -/
import Derived.Test.YtlmmgpmioaecnaaGreatDoorVmEff
namespace Go.Vm
open Go Go.RowKit
theorem JeY {P : Program} {w : World} {c : Value} {n : Nat} {l : List Value} (h : Lies w c n l) {z : Nat} (hl : l.length = n * z) : (Builtin.firstCells z n c).run P w = .ok ⟨l⟩ w := by
 cases h with
 | none c' => exact run_firstCells_none w z 0 0 c'
 | some a n c l h => exact run_firstCells_some w z n a n c l hl h
theorem Lies.drew {w : World} {c : Value} {n : Nat} {l : List Value} (h : Lies w c n l) : Lies w.drew c n l := by
 cases h with
 | none c' => exact .none _
 | some a n c l h => exact .some _ _ _ _ h
section
variable {P : Program} {w : World} {t u ty e : TypeId} {i : TypeInfo}
theorem JeZ (ht : P.underlying t = some (.slice e)) (hu : (∃ e', P.underlying u = some (.slice e')) ∨ P.underlying u = some .string) (hi : P.info? e = some i) (b : Option Addr) (n cap : Nat) (hc : n ≤ cap) (x : Value)
  (hlen : (Builtin.lenOf x).run P w = .ok 0 w) (hx : (Builtin.firstCells i.size 0 x).run P w = .ok ⟨[]⟩ w) :
  (Builtin.append_ #[t, u] ty #[.slice b n cap, x]).run P w = .ok (.slice b n cap) w := by
 rcases hu with ⟨e', hu⟩ | hu <;> cases b <;> simp [Builtin.append_, run_underlying ht, run_underlying hu, sizeOf, typeInfo, hi, hlen, hx, hc, storeCells]
theorem Jel (ht : P.underlying t = some (.slice e)) (hu : (∃ e', P.underlying u = some (.slice e')) ∨ P.underlying u = some .string) (hi : P.info? e = some i) (b co n cap : Nat)
  (x : Value) (m : Nat) (news : List Value) {w' : World}
  (hlen : (Builtin.lenOf x).run P w = .ok m w) (hx : (Builtin.firstCells i.size m x).run P w = .ok ⟨news⟩ w) (hroom : n + m ≤ cap) (hst : (storeCells ⟨b, co + n * i.size, none⟩ news 0).run P w = .ok () w') :
  (Builtin.append_ #[t, u] ty #[.slice (some ⟨b, co, none⟩) n cap, x]).run P w = .ok (.slice (some ⟨b, co, none⟩) (n + m) cap) w' := by
 have hadd : (⟨b, co, none⟩ : Addr).add (n * i.size) = ⟨b, co + n * i.size, none⟩ := Addr.add_lit _ _ _
 rcases hu with ⟨e', hu⟩ | hu <;> simp [Builtin.append_, run_underlying ht, run_underlying hu, sizeOf, typeInfo, hi, hlen, hroom, hx, hadd, hst]
theorem Jem (ht : P.underlying t = some (.slice e)) (hu : (∃ e', P.underlying u = some (.slice e')) ∨ P.underlying u = some .string) (hi : P.info? e = some i) {z : Value} (hz : i.zero = some z) (b : Option Addr) (n cap : Nat) (x : Value) (m : Nat) (olds news : List Value)
  (hlen : (Builtin.lenOf x).run P w = .ok m w) (hx : (Builtin.firstCells i.size m x).run P w.drew = .ok ⟨news⟩ w.drew) (ho : (Builtin.firstCells i.size n (.slice b n cap)).run P w.drew = .ok ⟨olds⟩ w.drew)
  (hg : cap < n + m) (hb : (n + m) * i.bytes ≤ Jr) (hm : n + m ≤ Jr) :
  (Builtin.append_ #[t, u] ty #[.slice b n cap, x]).run P w =
   .ok (.slice (some ⟨w.heap.size, 0, none⟩) (n + m) (grownCap w (n + m) cap e))
    (w.drew.alloc (.cells ⟨olds ++ news ++ (Builtin.zeroCells z.cells (grownCap w (n + m) cap e - (n + m))).toList⟩ e)) := by
 unfold Jr at hb hm
 have hn : ¬ (n + m ≤ cap) := by omega
 have h63' : ¬ (9223372036854775807 < ((n : Int) + (m : Int))) := by omega
 have hfit := growslice_fits (need := n + m) (old := cap) (bytes := i.bytes) hg (by omega)
 have h48' : ¬ (281474976710656 < Builtin.nextslicecap (n + m) cap * i.bytes) := by omega
 have harr : (⟨olds⟩ : Array Value) ++ (⟨news⟩ : Array Value) ++ Builtin.zeroCells z.cells (grownCap w (n + m) cap e - (n + m)) = ⟨olds ++ news ++ (Builtin.zeroCells z.cells (grownCap w (n + m) cap e - (n + m))).toList⟩ := by
  apply Array.ext'; simp
 rw [← harr]
 rcases hu with ⟨e', hu⟩ | hu <;> simp [Builtin.append_, run_underlying ht, run_underlying hu, sizeOf, typeInfo, zeroValue, hi, hz, hlen, hn, h63', h48', Question.forced, hx, ho, newRow, grownCap]
 all_goals (congr 2; apply Array.ext'; simp)
end
theorem R.slice_form {g : Gh} {v : V} {c : Value} (h : R g v c) {st : St} {z : Nat} {cs : List V} {n : Nat} (hs : JJ st z v = some (cs, n)) : ∃ b cap, c = .slice b n cap ∧ n ≤ cap := by
 unfold JJ at hs
 split at hs
 ·cases h
  simp only [Option.some.injEq, Prod.mk.injEq] at hs
  obtain ⟨_, rfl⟩ := hs
  exact ⟨none, 0, rfl, by omega⟩
 ·split at hs
  ·simp only [Option.some.injEq, Prod.mk.injEq] at hs
   obtain ⟨_, rfl⟩ := hs
   cases h with
   | sl _ _ _ b o cap l hr hp hc ht => exact ⟨_, cap, rfl, hc⟩
   | sl0 _ a cap he => exact ⟨_, cap, rfl, Nat.zero_le _⟩
  ·simp at hs
 ·split at hs
  ·split at hs
   ·simp only [Option.some.injEq, Prod.mk.injEq] at hs
    obtain ⟨_, rfl⟩ := hs
    cases h with
    | ms _ _ _ _ _ b o bs co c hb hc ho hk => exact ⟨_, c, rfl, hc⟩
   ·simp at hs
  ·simp at hs
 ·simp at hs
theorem JbY {P : Program} {base : Nat} {g : Gh} {st : St} {w : World} (hi : Inv base g st.abs w) {z : Nat} {x : V} {cs : List V} {m : Nat} (h : Qj st z x = some (cs, m)) {c : Value} (hx : R g x c) :
  ∃ l, Rs g cs l ∧ l.length = m * z ∧ (Builtin.lenOf c).run P w = .ok m w ∧ (∀ k, k ≤ m → ∀ W : World, W.heap = w.heap → (Builtin.firstCells z k c).run P W = .ok ⟨l.take (k * z)⟩ W) := by
 unfold Qj at h
 split at h
 ·rename_i bs
  cases hx
  split at h
  ·rename_i hz
   have hz := Nat.eq_of_beq_eq_true hz
   subst hz
   simp only [Option.some.injEq, Prod.mk.injEq] at h
   obtain ⟨rfl, rfl⟩ := h
   have e : (⟨⟨bs.toList⟩⟩ : ByteArray).size = bs.n := bs.len
   refine ⟨bs.toList.map fun b => .int .u8 b.toNat, ?_, by simp, by simp [Builtin.lenOf, e], fun k hk W _ => ?_⟩
   ·unfold Qi
    generalize bs.toList = bs
    induction bs with
    | nil => exact .nil
    | cons b bs ih => exact .cons _ _ _ _ (.int _ _) ih
   ·simp [Builtin.firstCells, Jds, List.map_take]
  ·simp at h
 ·obtain ⟨l, h1, h2, h3⟩ := JcG hi h hx
  refine ⟨l, h1, h2, ?_, fun k hk W hW => ?_⟩
  ·cases h3 <;> rfl
  ·cases h3 with
   | none c =>
    have : k = 0 := by omega
    subst this
    simp [Builtin.firstCells]
   | some a n c l hcell =>
    have hl : (l.take (k * z)).length = k * z := by
     have := Nat.mul_le_mul_right z hk
     rw [List.length_take]; omega
    have := run_loadCells_list (P := P) (w := W) a (l.take (k * z)) (fun j v hj => by
     rw [List.getElem?_take] at hj
     split at hj
     ·have := hcell j v hj
      rw [World.cell?_of_block (w := w) (by rw [hW])]; exact this
     ·simp at hj)
    rw [hl] at this
    exact this
theorem JiN {P : Program} {base : Nat} {g : Gh} {st : St} {w : World} (hi : Inv base g st.abs w) {z : Nat} {x : V} {cs : List V} {m : Nat} (h : Qj st z x = some (cs, m)) {c : Value} (hx : R g x c) :
  ∃ l, Rs g cs l ∧ l.length = m * z ∧ (Builtin.lenOf c).run P w = .ok m w ∧ (∀ W : World, W.heap = w.heap → (Builtin.firstCells z m c).run P W = .ok ⟨l⟩ W) := by
 obtain ⟨l, h1, h2, h3, h4⟩ := JbY (P := P) hi h hx
 refine ⟨l, h1, h2, h3, fun W hW => ?_⟩
 have := h4 m (Nat.le_refl _) W hW
 rwa [List.take_of_length_le (by omega)] at this
theorem Inv.grow {base : Nat} {g : Gh} {st : St} {w : World} (hi : Inv base g st.abs w) {cs : List V} {l : List Value} (hr : Rs g cs l) (e : TypeId) (rest : List Value) (f : Nat × Nat) (fz : Option Nat) (hz : fzR fz 0 (l ++ rest).length f) {w1 : World} (hw : w1.heap = w.heap)
  (hb : Below base w w1) (box1 : Tr Bx) (hbox : ∀ i x, box1.get i = some x → st.box.get i = some x) :
  ∃ g', Inv base g' ({ ctr := st.ctr + 1, box := box1.put st.ctr (.cells cs e false fz) } : St).abs (w1.alloc (.cells ⟨l ++ rest⟩ e f)) ∧
   Ext base g st.abs w g' ({ ctr := st.ctr + 1, box := box1.put st.ctr (.cells cs e false fz) } : St).abs (w1.alloc (.cells ⟨l ++ rest⟩ e f)) ∧ g'.box st.ctr = some (w.heap.size, 0, (l ++ rest).length) := by
 have hi1 : Inv base g ({ ctr := st.ctr, box := box1 } : St).abs w1 := by
  refine ⟨by rw [hw]; exact hi.size, fun b o c h => by rw [World.cell?_of_block (w := w) (by rw [hw])]; exact hi.pub b o c h, fun i x h => by rw [hw]; exact hi.box i x (hbox i x h), fun i b o bs h => by rw [hw]; exact hi.boxat i b o bs h,
   fun i j x y b o bs o' bs' h1 h2 => hi.boxinj i j x y b o bs o' bs' (hbox i x h1) (hbox j y h2), fun k hk => ⟨(hi.fresh k hk).1, ?_⟩⟩
  cases h : box1.get k with
  | none => exact h
  | some x => have h1 := hbox k x h; have h2 : st.box.get k = none := (hi.fresh k hk).2; rw [h2] at h1; simp at h1
 have hbr : BR g 0 (l ++ rest).length (.cells cs e false fz) (.cells ⟨l ++ rest⟩ e f) := by
  have := BR.cells (g := g) (o := 0) (bs := (l ++ rest).length) cs e false fz [] l rest f rfl hr (by simp) (by simp) hz
  simpa using this
 obtain ⟨g', h1, h2, h3⟩ := hi1.newObj hbr
 have hsz : w1.heap.size = w.heap.size := by rw [hw]
 refine ⟨g', h1, ⟨h2.le, by show st.ctr ≤ st.ctr + 1; omega, hb.trans h2.below, fun b hb' ho => ?_, fun b hb' ho => ?_, fun i hi' hn => ?_⟩, by rw [← hsz]; exact h3⟩
 ·have hno : ¬ Own g ({ ctr := st.ctr, box := box1 } : St).abs b := fun ⟨i, x, o, bs, q1, q2⟩ => ho ⟨i, x, o, bs, hbox i x q1, q2⟩
  rw [h2.own b (by rw [hsz]; exact hb') hno, hw]
 ·obtain ⟨i, x, o, bs, q1, q2⟩ := h2.noth b (by rw [hsz]; exact hb') ho
  exact ⟨i, x, o, bs, hbox i x q1, q2⟩
 ·refine h2.keep i hi' ?_
  show box1.get i = none
  cases h : box1.get i with
  | none => rfl
  | some x => have h1 := hbox i x h; have h2 : st.box.get i = none := hn; rw [h2] at h1; simp at h1
theorem JkI {a : Int} (h1 : -9223372036854775808 ≤ a) (h2 : a < 9223372036854775808) : IntKind.i64.wrap a = a := by
 simp [IntKind.wrap, IntKind.bits, IntKind.signed]
 omega
structure AppArg (P : Program) (t u ty e : TypeId) (i : TypeInfo) (cx : Value) (m : Nat) (ln : List Value) (w : World) : Prop where
 zero : m = 0 → ∀ b n cap, n ≤ cap → (Builtin.append_ #[t, u] ty #[.slice b n cap, cx]).run P w = .ok (.slice b n cap) w
 room : ∀ (b co n cap : Nat) (w' : World), n + m ≤ cap → (n + m) * i.bytes ≤ Jr → n + m ≤ Jr → (storeCells ⟨b, co + n * i.size, none⟩ ln 0).run P w = .ok () w' → (Builtin.append_ #[t, u] ty #[.slice (some ⟨b, co, none⟩) n cap, cx]).run P w = .ok (.slice (some ⟨b, co, none⟩) (n + m) cap) w'
 grow : ∀ (z : Value), i.zero = some z → ∀ (b : Option Addr) (n cap : Nat) (olds : List Value), (Builtin.firstCells i.size n (.slice b n cap)).run P w.drew = .ok ⟨olds⟩ w.drew → cap < n + m → (n + m) * i.bytes ≤ Jr → n + m ≤ Jr →
  (Builtin.append_ #[t, u] ty #[.slice b n cap, cx]).run P w = .ok (.slice (some ⟨w.heap.size, 0, none⟩) (n + m) (grownCap w (n + m) cap e))
    (w.drew.alloc (.cells ⟨olds ++ ln ++ (Builtin.zeroCells z.cells (grownCap w (n + m) cap e - (n + m))).toList⟩ e))
theorem JlL {P : Program} {base : Nat} {g : Gh} {st : St} {w : World} (hi : Inv base g st.abs w) {t u ty e : TypeId} {i : TypeInfo} (ht : P.underlying t = some (.slice e)) (hie : P.info? e = some i)
  (hu : (∃ e', P.underlying u = some (.slice e')) ∨ P.underlying u = some .string) {x : V} {cx : Value} (hx : R g x cx) {news : List V} {m : Nat} (h : Qj st i.size x = some (news, m)) :
  ∃ ln, Rs g news ln ∧ ln.length = m * i.size ∧ AppArg P t u ty e i cx m ln w := by
 obtain ⟨ln, hn1, hn2, hn3, hn4⟩ := JiN (P := P) hi h hx
 refine ⟨ln, hn1, hn2, fun hm b n cap hc => ?_, fun b co n cap w' hr _ _ hst => Jel ht hu hie b co n cap cx m ln hn3 (hn4 w rfl) hr hst,
  fun z hz b n cap olds ho hg hb hm => Jem ht hu hie hz b n cap cx m olds ln hn3 (hn4 w.drew rfl) ho hg hb hm⟩
 subst hm
 have hnil : ln = [] := List.eq_nil_of_length_eq_zero (by simpa using hn2)
 subst hnil
 exact JeZ ht hu hie b n cap hc cx hn3 (hn4 w rfl)
theorem JiO {P : Program} {g : Gh} {w : World} {t u ty e : TypeId} {i : TypeInfo} {k : IntKind} (ht : P.underlying t = some (.slice e)) (hie : P.info? e = some i) (hu : P.underlying u = some (.int k)) {zv : V} (hzv : Q7 P e = some zv)
  (hzl : zv.cells.length = i.size) (hsz : 0 < i.size) (k' : IntKind) (m : Nat) :
  ∃ ln, Rs g (Jba zv.cells m) ln ∧ ln.length = m * i.size ∧ AppArg P t u ty e i (.int k' (m : Int)) m ln w := by
 obtain ⟨i', zc, hi', hzc, hzR⟩ := Je5 hzv g
 have : i' = i := by rw [hie] at hi'; simpa using hi'.symm
 subst this
 have hzcl : zc.cells.toList.length = i'.size := by rw [← hzR.cells.len, hzl]
 have hmade : Builtin.zeroCells zc.cells m = ⟨zerosC zc.cells.toList m⟩ := Jdx zc.cells.toList m (by omega)
 have hlen : (zerosC zc.cells.toList m).length = m * i'.size := by rw [Jcr, hzcl]
 have hw : m ≤ Jr → IntKind.i64.wrap (m : Int) = (m : Int) := fun h => by
  unfold Jr at h
  exact JkI (by omega) (by omega)
 have hai : ∀ w : World, (asInt (.int k' (m : Int))).run P w = .ok (m : Int) w := fun _ => rfl
 have hai0 : ∀ w : World, (asInt (.int k' 0)).run P w = .ok (0 : Int) w := fun _ => rfl
 have h0 : IntKind.i64.wrap 0 = 0 := rfl
 refine ⟨zerosC zc.cells.toList m, Je6 hzR.cells m, hlen, fun hm b n cap hc => ?_, fun b co n cap w' hr hb hm hst => ?_, fun z hz b n cap olds ho hg hb hm => ?_⟩
 ·subst hm
  cases b <;> simp [Builtin.append_, run_underlying ht, run_underlying hu, sizeOf, typeInfo, hie, hc, storeCells, hai0, h0]
 ·have h1 := hw (by omega)
  have h2 : ¬ (281474976710656 < (m : Int) * (i'.bytes : Int)) := by
   have : m * i'.bytes ≤ (n + m) * i'.bytes := Nat.mul_le_mul_right _ (by omega)
   unfold Jr at hb
   have h3 : ((m * i'.bytes : Nat) : Int) ≤ 70368744177664 := by omega
   rw [Int.natCast_mul] at h3
   omega
  have h3 : ¬ ((m : Int) < 0) := by omega
  have hadd : (⟨b, co, none⟩ : Addr).add (n * i'.size) = ⟨b, co + n * i'.size, none⟩ := Addr.add_lit _ _ _
  by_cases hz0 : m = 0
  ·subst hz0
   simp only [zerosC] at hst
   simp [Builtin.append_, run_underlying ht, run_underlying hu, sizeOf, typeInfo, hie, hai0, h0, hadd, hst, (show n ≤ cap by omega)]
  ·have hz1 : ¬ (m * i'.size = 0) := Nat.mul_ne_zero hz0 (by omega)
   simp [Builtin.append_, run_underlying ht, run_underlying hu, sizeOf, typeInfo, zeroValue, hie, hzc, hai, h1, h2, h3, hr, hadd, hmade, hst, hz1]
 ·have h1 := hw (by omega)
  have hb' := hb
  have hm' := hm
  unfold Jr at hb hm
  have h2 : ¬ (281474976710656 < (m : Int) * (i'.bytes : Int)) := by
   have : m * i'.bytes ≤ (n + m) * i'.bytes := Nat.mul_le_mul_right _ (by omega)
   have h3 : ((m * i'.bytes : Nat) : Int) ≤ 70368744177664 := by omega
   rw [Int.natCast_mul] at h3
   omega
  have h3 : ¬ ((m : Int) < 0) := by omega
  have hn : ¬ (n + m ≤ cap) := by omega
  have h63' : ¬ (9223372036854775807 < ((n : Int) + (m : Int))) := by omega
  have hfit := growslice_fits (need := n + m) (old := cap) (bytes := i'.bytes) hg (by omega)
  have h48' : ¬ (281474976710656 < Builtin.nextslicecap (n + m) cap * i'.bytes) := by omega
  have hzz : z = zc := by rw [hzc] at hz; exact (Option.some.inj hz).symm
  subst hzz
  have harr : (⟨olds⟩ : Array Value) ++ (⟨zerosC z.cells.toList m⟩ : Array Value) ++ Builtin.zeroCells z.cells (grownCap w (n + m) cap e - (n + m)) = ⟨olds ++ zerosC z.cells.toList m ++ (Builtin.zeroCells z.cells (grownCap w (n + m) cap e - (n + m))).toList⟩ := by
   apply Array.ext'; simp
  rw [← harr]
  by_cases hz0 : m = 0
  ·subst hz0
   have h63'' : ¬ (9223372036854775807 < (n : Int)) := by omega
   have h48'' : ¬ (281474976710656 < Builtin.nextslicecap n cap * i'.bytes) := h48'
   simp [Builtin.append_, run_underlying ht, run_underlying hu, sizeOf, typeInfo, zeroValue, hie, hzc, hai0, h0, h63'', h48'', Question.forced, ho, newRow, grownCap, zerosC, (show ¬ n ≤ cap by omega)]
  ·have hz1 : ¬ (m * i'.size = 0) := Nat.mul_ne_zero hz0 (by omega)
   simp [Builtin.append_, run_underlying ht, run_underlying hu, sizeOf, typeInfo, zeroValue, hie, hzc, hai, h1, h2, h3, hn, h63', h48', Question.forced, ho, newRow, grownCap, hmade, hz1]
   congr 2; apply Array.ext'; simp
theorem JdQ {P : Program} {base : Nat} {g : Gh} {st st' : St} {w : World} (hi : Inv base g st.abs w) {t u ty : TypeId} {s x v : V} (h : J0 P st t s x = some (v, st'))
  {cs cx : Value} (hs : R g s cs) (harg : ∀ e i zv, P.underlying t = some (.slice e) → P.info? e = some i → Q7 P e = some zv → Nat.beq i.size 0 = false → ∀ news m, Qj st i.size x = some (news, m) → ∃ ln, Rs g news ln ∧ ln.length = m * i.size ∧ AppArg P t u ty e i cx m ln w) :
  ∃ g' c w', (Builtin.append_ #[t, u] ty #[cs, cx]).run P w = .ok c w' ∧ R g' v c ∧ Inv base g' st'.abs w' ∧ Ext base g st.abs w g' st'.abs w' := by
 unfold J0 at h
 split at h
 rotate_left
 ·simp at h
 rename_i e ht
 split at h
 rotate_left
 ·simp at h
 rename_i i hie
 split at h
 rotate_left
 ·simp at h
 rename_i zv hz0 hzv
 split at h
 rotate_left
 ·simp at h
 rename_i news m olds n hsrc hsl
 obtain ⟨ln, hn1, hn2, hA⟩ := harg _ _ _ ht hie hzv hz0 _ _ hsrc
 obtain ⟨lo, ho1, ho2, ho3⟩ := JcG hi hsl hs
 obtain ⟨b, cap, rfl, hcap⟩ := hs.slice_form hsl
 split at h
 ·rename_i hm
  have hm := Nat.eq_of_beq_eq_true hm
  subst hm
  simp only [Option.some.injEq, Prod.mk.injEq] at h
  obtain ⟨rfl, rfl⟩ := h
  exact ⟨g, _, w, hA.zero rfl b n cap hcap, hs, hi, Ext.refl _ _ _ _⟩
 ·rename_i hm
  split at h
  rotate_left
  ·simp at h
  rename_i hbb
  obtain ⟨b123, b4⟩ := Jah hbb
  obtain ⟨b12, b3⟩ := Jah b123
  obtain ⟨b1, b2⟩ := Jah b12
  have b1 := Nat.le_of_ble_eq_true b1
  have b2 := Nat.le_of_ble_eq_true b2
  have b3 := Nat.eq_of_beq_eq_true b3
  have hz1 : 0 < i.size := by
   cases hz2 : i.size with
   | zero => rw [hz2] at hz0; simp at hz0
   | succ k => exact Nat.succ_pos k
  obtain ⟨i', zc, hi', hzc, hzR⟩ := Je5 hzv g
  have : i' = i := by rw [hie] at hi'; simpa using hi'.symm
  subst this
  have hzcl : zc.cells.size = i'.size := by rw [← Array.length_toList, ← hzR.cells.len, b3]
  have hm0 : 0 < m := Nat.pos_of_ne_zero (fun e => by subst e; simp at hm)
  have grow : ∀ (box1 : Tr Bx) (fz : Option Nat), (∀ i x, box1.get i = some x → st.box.get i = some x) → (∀ k, fzR fz 0 k (0, 0)) → cap < n + m →
    ∃ g' c w', (Builtin.append_ #[t, u] ty #[.slice b n cap, cx]).run P w = .ok c w' ∧ R g' (.ms st.ctr 0 (n + m) i'.size none) c ∧
     Inv base g' ({ ctr := st.ctr + 1, box := box1.put st.ctr (.cells (olds ++ news) e false fz) } : St).abs w' ∧ Ext base g st.abs w g' ({ ctr := st.ctr + 1, box := box1.put st.ctr (.cells (olds ++ news) e false fz) } : St).abs w' := by
   intro box1 fz hbox hfz hg
   have hrun := hA.grow zc hzc b n cap lo (JeY ho3.drew ho2) hg b1 b2
   have hL : (lo ++ ln ++ (Builtin.zeroCells zc.cells (grownCap w (n + m) cap e - (n + m))).toList).length = grownCap w (n + m) cap e * i'.size := by
    have hge := grownCap_ge w (n + m) cap e
    simp only [List.length_append, ho2, hn2, Array.length_toList, size_zeroCells, hzcl, ← Nat.add_mul]
    congr 1; omega
   obtain ⟨g', j1, j2, j3⟩ := hi.grow (ho1.app hn1) e (Builtin.zeroCells zc.cells (grownCap w (n + m) cap e - (n + m))).toList (0, 0) fz (hfz _) (w1 := w.drew) rfl (Below.refl _ _).drew box1 hbox
   refine ⟨g', _, _, hrun, ?_, j1, j2⟩
   exact .ms _ _ _ _ _ _ 0 _ 0 _ j3 (grownCap_ge _ _ _ _) (.inr rfl) (by show 0 + 0 + _ = _; rw [hL]; omega)
  split at h
  ·
   simp only [Option.some.injEq, Prod.mk.injEq] at h
   obtain ⟨rfl, rfl⟩ := h
   cases hs
   exact grow st.box (some 0) (fun _ _ h => h) (fun _ => Nat.zero_le _) (by omega)
  ·
   simp only [Option.some.injEq, Prod.mk.injEq] at h
   obtain ⟨rfl, rfl⟩ := h
   cases hs with
   | sl _ _ _ b o cap l hr hp hc htl => exact grow st.box (some 0) (fun _ _ h => h) (fun _ => Nat.zero_le _) (by have := htl rfl; omega)
   | sl0 _ a cap htl => exact grow st.box (some 0) (fun _ _ h => h) (fun _ => Nat.zero_le _) (by have := htl rfl; omega)
  ·
   rename_i id off n0 z cap0
   split at h
   rotate_left
   ·simp at h
   rename_i cs0 e' fl fz hcs hbz
   have hbz := Nat.eq_of_beq_eq_true hbz
   subst hbz
   have hn0 : n0 = n := by
    unfold JJ at hsl
    simp only [hcs] at hsl
    split at hsl
    ·simp only [Option.some.injEq, Prod.mk.injEq] at hsl; exact hsl.2
    ·simp at hsl
   subst hn0
   cases hs with
   | ms _ _ _ _ _ b o bs co _ hb hc ho hk =>
   split at h
   ·
    rename_i hroom
    split at h
    rotate_left
    ·simp at h
    rename_i hfit
    obtain ⟨f1, f2⟩ := Jah hfit
    have f1 := Nat.le_of_ble_eq_true f1
    simp only [Option.some.injEq, Prod.mk.injEq] at h
    obtain ⟨rfl, rfl⟩ := h
    obtain ⟨pre, mid, rest, f, _, hpo, hr0, hs0, _, _, _⟩ := hi.cells (i := id) hcs hb
    have hml := hr0.len
    have hcs1 : o + cs0.length ≤ bs := by simp at hs0; omega
    have hroom' : n0 + m ≤ cap := by
     unfold QV at hroom
     cases cap0 with
     | some c =>
      have hk : cap = c := hk
      simp only at hroom
      split at hroom
      ·rename_i hle; have := Nat.le_of_ble_eq_true hle; omega
      ·simp at hroom
     | none =>
      simp only at hroom
      split at hroom
      ·rename_i hle
       have hle := Nat.le_of_ble_eq_true hle
       have hk : o + off + cap * i'.size = bs := hk
       have h1 : (n0 + m) * i'.size ≤ cap * i'.size := by omega
       exact Nat.le_of_mul_le_mul_right h1 hz1
      ·simp at hroom
    have hco : co = o + off := by rcases ho with ho | ho <;> omega
    subst hco
    obtain ⟨w', q1, q2, q3⟩ := hi.storeBox (P := P) hcs hb hn1 b4 (off := off + n0 * i'.size) (by rw [hn1.len, hn2, Nat.add_assoc, ← Nat.add_mul]; exact f1) f2
    rw [← Nat.add_assoc] at q1
    refine ⟨g, _, w', hA.room b (o + off) n0 cap _ hroom' b1 b2 q1, ?_, q2, q3⟩
    exact .ms _ _ _ _ _ b o bs _ _ hb hroom' (.inr rfl) hk
   ·
    rename_i hroom
    simp only [Option.some.injEq, Prod.mk.injEq] at h
    obtain ⟨rfl, rfl⟩ := h
    refine grow st.box (some 0) (fun _ _ h => h) (fun _ => Nat.zero_le _) ?_
    unfold QV at hroom
    cases cap0 with
    | some c =>
     have hk : cap = c := hk
     simp only at hroom
     split at hroom
     ·simp at hroom
     ·rename_i hle
      rcases Nat.lt_or_ge cap (n0 + m) with h | h
      ·exact h
      ·have := Nat.ble_eq_true_of_le (show n0 + m ≤ c by omega); rw [this] at hle; simp at hle
    | none =>
     simp only at hroom
     split at hroom <;> simp at hroom
   ·
    rename_i hroom
    split at h
    rotate_left
    ·simp at h
    rename_i hgo
    obtain ⟨f1, f2⟩ := Jah hgo
    have f2 := Nat.eq_of_beq_eq_true f2
    subst f2
    simp only [Option.some.injEq, Prod.mk.injEq] at h
    obtain ⟨rfl, rfl⟩ := h
    have hcap0 : cap0 = none := by
     cases cap0 with
     | none => rfl
     | some c => unfold QV at hroom; simp only at hroom; split at hroom <;> simp at hroom
    subst hcap0
    have hk : o + off + cap * i'.size = bs := hk
    have hdel : ∀ i x, (st.box.del id).get i = some x → st.box.get i = some x := fun i x h => by
     rw [Tr.get_del] at h
     split at h
     ·simp at h
     ·exact h
    by_cases hg : cap < n0 + m
    ·refine grow (st.box.del id) _ hdel (fun k => ?_) hg
     cases fz with
     | some k' => exact Nat.zero_le _
     | none => exact .inr rfl
    ·
     have hco : co = o + off := by rcases ho with ho | ho <;> omega
     subst hco
     obtain ⟨pre, mid, rest, f, hheap, hpo, hr0, hs0, _, hfz, _⟩ := hi.cells (i := id) hcs hb
     let L := pre ++ mid ++ rest
     have hLlen : L.length = bs := hs0
     have hbnd : (n0 + m) * i'.size ≤ cap * i'.size := Nat.mul_le_mul_right _ (by omega)
     have hln : o + off + n0 * i'.size + ln.length ≤ L.length := by
      rw [hn2, hLlen, Nat.add_assoc, ← Nat.add_mul]; omega
     have hst := Jbl P b (o + off + n0 * i'.size) e f ln 0 ⟨L⟩ w hheap (by
      have := Jjy (len := ln.length) hfz f1 (by rw [← hLlen, ← Nat.add_assoc]; exact hln)
      rw [← Nat.add_assoc] at this
      simpa using this) (by simpa using hln) (hn1.ones b4)
     simp only [Nat.add_zero] at hst
     have hlo : L.take (o + off + n0 * i'.size) = L.take (o + off) ++ lo := by
      cases ho3 with
      | some a _ _ _ hcell =>
      apply List.ext_getElem?
      intro j
      rw [List.getElem?_append]
      have htl : (L.take (o + off)).length = o + off := by rw [List.length_take]; omega
      rw [htl]
      by_cases hj : j < o + off
      ·rw [if_pos hj, List.getElem?_take, List.getElem?_take, if_pos (by omega), if_pos hj]
      ·rw [if_neg hj, List.getElem?_take]
       by_cases hj2 : j < o + off + n0 * i'.size
       ·rw [if_pos hj2]
        have hlt : j - (o + off) < lo.length := by rw [ho2]; omega
        have h1 := hcell (j - (o + off)) lo[j - (o + off)] (List.getElem?_eq_getElem hlt)
        rw [Addr.add_lit, show o + off + (j - (o + off)) = j by omega] at h1
        have h2 : L[j]? = some lo[j - (o + off)] := by
         simpa [L, World.cell?, hheap] using h1
        rw [h2, List.getElem?_eq_getElem hlt]
       ·rw [if_neg hj2, eq_comm, List.getElem?_eq_none_iff, ho2]
        omega
     have hrow : L.take (o + off + n0 * i'.size) ++ ln ++ L.drop (o + off + n0 * i'.size + ln.length) = L.take (o + off) ++ (lo ++ ln) ++ L.drop (o + off + n0 * i'.size + ln.length) := by
      rw [hlo]; simp [List.append_assoc]
     have hst' : (storeCells ⟨b, o + off + n0 * i'.size, none⟩ ln 0).run P w = .ok () (w.setRow b ⟨L.take (o + off) ++ (lo ++ ln) ++ L.drop (o + off + n0 * i'.size + ln.length)⟩) := by rw [← hrow]; exact hst
     have hbr : BR g (o + off) bs (.cells (olds ++ news) e false (Jgy fz off)) (.cells ⟨L.take (o + off) ++ (lo ++ ln) ++ L.drop (o + off + n0 * i'.size + ln.length)⟩ e f) := by
      refine .cells _ _ _ _ _ _ _ _ (by rw [List.length_take]; omega) (ho1.app hn1) ?_ (by simp) ?_
      ·simp only [List.length_append, List.length_take, List.length_drop, ho2]; omega
      ·cases fz with
       | some k =>
        have hk' : f.2 ≤ o + k := hfz
        show f.2 ≤ o + off + (k - off)
        omega
       | none => exact hfz
     have hlive : st.abs.box id = some (.cells cs0 e fl fz) := hcs
     obtain ⟨p1, p2, p3⟩ := hi.boxat id b o bs hb
     obtain ⟨fr1, fr2⟩ := hi.fresh st.ctr (Nat.le_refl _)
     have hkf : (st.abs.kill id).box st.ctr = none := by
      show (if st.ctr = id then none else st.abs.box st.ctr) = none
      rw [fr2]; split <;> rfl
     obtain ⟨g', j1, j2, j3, j4, j5⟩ := (hi.kill id).newAt (w' := w.setRow b ⟨L.take (o + off) ++ (lo ++ ln) ++ L.drop (o + off + n0 * i'.size + ln.length)⟩) st.ctr fr1 hkf (b := b) (o := o + off) (bs := bs) p1 (by simpa using p2) (by simp) p3
      (hi.killed hlive hb) (setRow_heap _ _ _ _ _ _ hheap) (fun k hk _ => setRow_other _ _ _ _ hk) hbr (st.ctr + 1) (Nat.le_succ _) (Nat.lt_succ_self _)
     have habs : ({ ctr := st.ctr + 1, box := (st.box.del id).put st.ctr (.cells (olds ++ news) e false (Jgy fz off)) } : St).abs =
       { ((st.abs.kill id).putBox st.ctr (.cells (olds ++ news) e false (Jgy fz off))) with ctr := st.ctr + 1 } := by
      simp only [St.abs, SS.putBox, SS.kill]
      congr 1
      funext k
      rw [Tr.get_put, Tr.get_del]
     rw [habs]
     refine ⟨g', _, _, hA.room b (o + off) n0 cap _ (by omega) b1 b2 hst', ?_, j1, ⟨j2, Nat.le_succ _, Below.setRow (.refl _ _) p1 _, fun b' hb' hno => setRow_other _ _ _ _ (fun e => hno ⟨id, _, o, bs, hlive, e ▸ hb⟩), fun b' hb' ho' => ?_, fun k hk hn => ?_⟩⟩
     ·exact .ms _ _ _ _ _ b (o + off) bs _ _ j4 (by omega) (.inr rfl) (by show o + off + 0 + cap * i'.size = bs; omega)
     ·rcases j3 b' ho' with rfl | h
      ·exact ⟨id, _, o, bs, hlive, hb⟩
      ·exact h.kill
     ·have hne : k ≠ st.ctr := by have : k < st.ctr := hk; omega
      refine ⟨?_, j5 k hne⟩
      show (if k = st.ctr then _ else if k = id then none else st.abs.box k) = none
      rw [if_neg hne, hn]; split <;> rfl
  ·simp at h
theorem JeE {P : Program} {base : Nat} {g : Gh} {st st' : St} {w : World} (hi : Inv base g st.abs w) {t u ty : TypeId} {s x v : V} (h : J0 P st t s x = some (v, st'))
  (hu : (∃ e', P.underlying u = some (.slice e')) ∨ P.underlying u = some .string) {cs cx : Value} (hs : R g s cs) (hx : R g x cx) :
  ∃ g' c w', (Builtin.append_ #[t, u] ty #[cs, cx]).run P w = .ok c w' ∧ R g' v c ∧ Inv base g' st'.abs w' ∧ Ext base g st.abs w g' st'.abs w' :=
 JdQ hi h hs fun _ _ _ ht hie _ _ _ _ hsrc => JlL hi ht hie hu hx hsrc
theorem Jg0 {P : Program} {base : Nat} {g : Gh} {st st' : St} {w : World} (hi : Inv base g st.abs w) {t u ty : TypeId} {s x v : V} (h : JcT P st t s x = some (v, st'))
  {k : IntKind} (hu : P.underlying u = some (.int k)) {cs cx : Value} (hs : R g s cs) (hx : R g x cx) :
  ∃ g' c w', (Builtin.append_ #[t, u] ty #[cs, cx]).run P w = .ok c w' ∧ R g' v c ∧ Inv base g' st'.abs w' ∧ Ext base g st.abs w g' st'.abs w' := by
 unfold JcT at h
 split at h
 rotate_left
 ·simp at h
 rename_i e n ht hn
 split at h
 rotate_left
 ·simp at h
 rename_i z zv hsize hzv
 split at h
 rotate_left
 ·simp at h
 rename_i hzl
 have hzl := Nat.eq_of_beq_eq_true hzl
 obtain ⟨k', rfl⟩ : ∃ k', x = .int k' (n : Int) := by
  unfold Ja6 at hn
  split at hn
  ·rename_i k' m
   simp only [Option.some.injEq] at hn
   exact ⟨k', by rw [← hn]; rfl⟩
  ·simp at hn
 cases hx
 refine JdQ hi h hs fun e1 i zv1 ht1 hie hzv1 hz0 news m hsrc => ?_
 have he : e = e1 := by rw [ht] at ht1; simpa using ht1
 subst he
 have hzi : z = i.size := by simp only [JR, hie, Option.some.injEq] at hsize; exact hsize.symm
 subst hzi
 have hsz : 0 < i.size := by
  cases hz2 : i.size with
  | zero => rw [hz2] at hz0; simp at hz0
  | succ k => exact Nat.succ_pos k
 simp only [Qj, JJ] at hsrc
 split at hsrc
 ·simp only [Option.some.injEq, Prod.mk.injEq] at hsrc
  obtain ⟨rfl, rfl⟩ := hsrc
  exact JiO ht hie hu hzv hzl hsz k' n
 ·simp at hsrc
end Go.Vm
