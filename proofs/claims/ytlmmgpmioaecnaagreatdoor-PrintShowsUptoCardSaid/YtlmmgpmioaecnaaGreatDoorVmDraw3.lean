/- Regions that draw: joined. -/
import Derived.Test.YtlmmgpmioaecnaaGreatDoorVmDraw2
namespace Go.Vm
open Go Go.RowKit
section
variable {P : Program} {ih : CallF} {ops : Array Oper} {b : List Nat} {c0 : Nat} {l : List Nat} {D : Nat → Drw} {base N : Nat} {g0 : Gh} {s0 : SS} {w0 : World}
structure J [Memo] (P : Program) (ops : Array Oper) (b : List Nat) (c0 : Nat) (l : List Nat) (D : Nat → Drw) (base N : Nat) (g0 : Gh) (s0 : SS) (w0 : World)
  (li : Array Bool) (ps : Nat) (g : Gh) (s : SS) (fr : Fr) (a : Act) (w : World) : Prop where
 lsz : li.size = ops.size
 down : ∀ i j, li.getD i false = true → bit b i j → li.getD j false = true
 f1 : ∀ (p i : Nat) (o : Oper) (t : Tmp), l[p]? = some i → li.getD i false = true → ops[i]? = some o → o.dst = some t → Fr.at fr t = Fr.at (D (p + 1)).fr t
 f2 : ∀ (t : Tmp), (∀ (i : Nat) (o : Oper), li.getD i false = true → ops[i]? = some o → o.dst ≠ some t) → Fr.at fr t = Fr.at (D 0).fr t
 fra : FR g N fr a
 psle : ps ≤ l.length
 h1 : ∀ (q i : Nat), q < ps → l[q]? = some i → li.getD i false = true
 h2 : ∀ (q i : Nat), ps ≤ q → l[q]? = some i → isE P ops i = true → li.getD i false = false
 inv : Inv base g s w
 sctr : (D ps).st.ctr = s.ctr
 same : fr.gl = (D 0).fr.gl ∧ fr.ds = (D 0).fr.ds
 s1 : ∀ (id : Nat) (cs : Bx), (D ps).st.box.get id = some cs → s.box id = some cs
 s2 : ∀ (q i id : Nat) (cs : Bx), ps ≤ q → l[q]? = some i → li.getD i false = true → XA P ops c0 l D q id cs → s.box id = some cs
 s3 : ∀ (id : Nat) (cs : Bx), s.box id = some cs → (D ps).st.box.get id = some cs ∨ ∃ (q i : Nat), ps ≤ q ∧ l[q]? = some i ∧ li.getD i false = true ∧ XA P ops c0 l D q id cs
 g1 : ∀ (i : Nat), i < ops.size → li.getD i false = false → g.box (c0 + i) = none ∧ s.box (c0 + i) = none
 fresh : ∀ (q i : Nat), ps ≤ q → l[q]? = some i → (D ps).st.box.get (c0 + i) = none
 cge : c0 + ops.size ≤ s.ctr
 ext : Ext base g0 s0 w0 g s w
theorem Qq {li : Array Bool} {i : Nat} (hi : i < li.size) (j : Nat) : (li.setIfInBounds i true).getD j false = if j = i then true else li.getD j false := by
 simp only [Array.getD_eq_getD_getElem?]
 by_cases h : j = i
 ·subst h; simp [hi]
 ·rw [Array.getElem?_setIfInBounds_ne (Ne.symm h), if_neg h]
variable (pl : Pl P ops b l) (hD : ∀ (p i : Nat), l[p]? = some i → Qk P ih ops b c0 i (D p) = some (D (p + 1)))
theorem J.looks [Memo] (pl : Pl P ops b l) (hD : ∀ (p i : Nat), l[p]? = some i → Qk P ih ops b c0 i (D p) = some (D (p + 1)))
  {li : Array Bool} {ps : Nat} {g : Gh} {s : SS} {fr : Fr} {a : Act} {w : World} (j : J P ops b c0 l D base N g0 s0 w0 li ps g s fr a w) {p i : Nat} {o : Oper} (hp : l[p]? = some i) (ho : ops[i]? = some o)
  (hni : li.getD i false = false) (hanc : ∀ k, bit b i k → li.getD k false = true) : ∀ t ∈ looks ops o, Fr.at fr t = Fr.at (D p).fr t := by
 intro t ht
 have hple : p ≤ l.length := Nat.le_of_lt (List.getElem?_eq_some_iff.1 hp).1
 by_cases hw : ∃ (k : Nat) (x : Oper), ops[k]? = some x ∧ x.dst = some t
 ·obtain ⟨k, x, hx, hd⟩ := hw
  have only : ∀ (k' : Nat) (x' : Oper), ops[k']? = some x' → x'.dst = some t → k' = k := fun k' x' hx' hd' => by
   rcases Nat.decEq k' k with h | h
   ·exact absurd hd (pl.dst1 k' k x' x t h hx' hx hd')
   ·exact h
  by_cases hki : k = i
  ·subst hki
   rw [j.f2 t (fun k' x' hl' hx' hd' => by
    have := only k' x' hx' hd'
    subst this
    rw [hni] at hl'; simp at hl')]
   rw [Jf9 hD p hple t (fun q k' x' hq hq' hx' hd' => by
    have := only k' x' hx' hd'
    subst this
    have := pl.nodup q p k' hq' hp
    omega)]
  ·rcases pl.slot k i x o t hki hx ho hd ht with hb | hb
   ·obtain ⟨⟨q, hq, hlq⟩, _⟩ := pl.anc p i o k hp ho hb
    rw [j.f1 q k x t hlq (hanc k hb) hx hd, JjM pl hD p hple q k x t hq hlq hx hd]
   ·have hkn : li.getD k false = false := by
     cases h : li.getD k false with
     | false => rfl
     | true => rw [j.down k i h hb] at hni; simp at hni
    rw [j.f2 t (fun k' x' hl' hx' hd' => by
     have := only k' x' hx' hd'
     subst this
     rw [hkn] at hl'; simp at hl')]
    rw [Jf9 hD p hple t (fun q k' x' hq hq' hx' hd' => by
     have := only k' x' hx' hd'
     subst this
     obtain ⟨⟨q', hq'', hlq'⟩, _⟩ := pl.anc q k' x i hq' hx hb
     have := pl.nodup q' p i hlq' hp
     omega)]
 ·have hno : ∀ (k : Nat) (x : Oper), ops[k]? = some x → x.dst ≠ some t := fun k x hx hd => hw ⟨k, x, hx, hd⟩
  rw [j.f2 t (fun k x _ hx => hno k x hx), Jf9 hD p hple t (fun q k x _ _ hx => hno k x hx)]
theorem J.frame [Memo] (pl : Pl P ops b l)
  {li : Array Bool} {ps : Nat} {g : Gh} {s : SS} {fr : Fr} {a : Act} {w : World} (j : J P ops b c0 l D base N g0 s0 w0 li ps g s fr a w) {p i : Nat} {o : Oper} (hp : l[p]? = some i) (ho : ops[i]? = some o)
  (hanc : ∀ k, bit b i k → li.getD k false = true) {v : V} (hv : (D (p + 1)).fr = Fr.to (D p).fr o.dst v) :
  (li.setIfInBounds i true).size = ops.size ∧
  (∀ x y, (li.setIfInBounds i true).getD x false = true → bit b x y → (li.setIfInBounds i true).getD y false = true) ∧
  (∀ (q k : Nat) (x : Oper) (t : Tmp), l[q]? = some k → (li.setIfInBounds i true).getD k false = true → ops[k]? = some x → x.dst = some t → Fr.at (Fr.to fr o.dst v) t = Fr.at (D (q + 1)).fr t) ∧
  (∀ (t : Tmp), (∀ (k : Nat) (x : Oper), (li.setIfInBounds i true).getD k false = true → ops[k]? = some x → x.dst ≠ some t) → Fr.at (Fr.to fr o.dst v) t = Fr.at (D 0).fr t) := by
 have hi : i < li.size := by rw [j.lsz]; exact pl.lt p i hp
 refine ⟨by simp [j.lsz], fun x y hx hb => ?_, fun q k x t hq hk hx hd => ?_, fun t hn => ?_⟩
 ·rw [Qq hi] at hx ⊢
  split
  ·rfl
  ·split at hx
   ·rename_i h; subst h; exact hanc y hb
   ·exact j.down x y hx hb
 ·rw [Qq hi] at hk
  rw [Fr.at_to]
  split at hk
  ·rename_i h
   subst h
   have : x = o := by rw [ho] at hx; simpa using hx.symm
   subst this
   have : q = p := pl.nodup q p k hq hp
   subst this
   rw [if_pos hd, hv, Fr.at_to, if_pos hd]
  ·rename_i h
   rw [if_neg (pl.dst1 k i x o t h hx ho hd)]
   exact j.f1 q k x t hq hk hx hd
 ·rw [Fr.at_to, if_neg (hn i o (by rw [Qq hi, if_pos rfl]) ho)]
  exact j.f2 t (fun k x hk hx => hn k x (by rw [Qq hi]; split; rfl; exact hk) hx)
theorem J.advance [Memo] (pl : Pl P ops b l) (hD : ∀ (p i : Nat), l[p]? = some i → Qk P ih ops b c0 i (D p) = some (D (p + 1)))
  {li : Array Bool} {ps : Nat} {g : Gh} {s : SS} {fr : Fr} {a : Act} {w : World} (j : J P ops b c0 l D base N g0 s0 w0 li ps g s fr a w) {p : Nat} (hps : ps ≤ p) (hp : p ≤ l.length)
  (hin : ∀ (q i : Nat), ps ≤ q → q < p → l[q]? = some i → li.getD i false = true) : J P ops b c0 l D base N g0 s0 w0 li p g s fr a w := by
 have hE : ∀ (q i : Nat), ps ≤ q → q < ps + (p - ps) → l[q]? = some i → isE P ops i = false := fun q i a1 a2 a3 => by
  cases h : isE P ops i with
  | false => rfl
  | true => have := j.h2 q i a1 a3 h; rw [hin q i a1 (by omega) a3] at this; simp at this
 obtain ⟨e1, e3⟩ := Job pl hD ps j.fresh (p - ps) (by omega) hE
 rw [show ps + (p - ps) = p from by omega] at e1 e3
 refine ⟨j.lsz, j.down, j.f1, j.f2, j.fra, hp, fun q i hq hl => ?_, fun q i hq hl hEi => j.h2 q i (by omega) hl hEi, j.inv, by rw [e1]; exact j.sctr, j.same, fun id cs h => ?_, fun q i id cs hq hl hi hx => j.s2 q i id cs (by omega) hl hi hx,
  fun id cs h => ?_, j.g1, fun q i hq hl => ?_, j.cge, j.ext⟩
 ·by_cases hqp : q < ps
  ·exact j.h1 q i hqp hl
  ·exact hin q i (by omega) hq hl
 ·rcases (e3 id cs).1 h with h | ⟨q, q1, q2, q3⟩
  ·exact j.s1 id cs h
  ·have q3' := q3
   obtain ⟨i, o, a1, _⟩ := q3'
   exact j.s2 q i id cs q1 a1 (hin q i q1 q2 a1) q3
 ·rcases j.s3 id cs h with h | ⟨q, i, q1, q2, q3, q4⟩
  ·exact .inl ((e3 id cs).2 (.inl h))
  ·by_cases hqp : q < p
   ·exact .inl ((e3 id cs).2 (.inr ⟨q, q1, hqp, q4⟩))
   ·exact .inr ⟨q, i, by omega, q2, q3, q4⟩
 ·cases h : (D p).st.box.get (c0 + i) with
  | none => rfl
  | some cs =>
   rcases (e3 _ cs).1 h with h | ⟨q', q1, q2, i', o', q3, _, _, _, q4, _⟩
   ·rw [j.fresh q i (by omega) hl] at h; simp at h
   ·have : i' = i := by omega
    subst this
    have := pl.nodup q' q i' q3 hl
    omega
theorem J.sub [Memo] {li : Array Bool} {ps : Nat} {g : Gh} {s : SS} {fr : Fr} {a : Act} {w : World} (j : J P ops b c0 l D base N g0 s0 w0 li ps g s fr a w) : (D ps).st.abs.sub s := ⟨j.sctr, j.s1⟩
end
end Go.Vm
