/- Regions that draw: done. And the theorem: what the evaluator Jod of a call holds of the model, whatever the tape. -/
import Derived.Test.YtlmmgpmioaecnaaGreatDoorVmDraw4
namespace Go.Vm
open Go Go.RowKit
theorem Inv.raise {base : Nat} {g : Gh} {s : SS} {w : World} (hi : Inv base g s w) (n : Nat) : Inv base g { s with ctr := s.ctr + n } w :=
 ⟨hi.size, hi.pub, hi.box, hi.boxat, hi.boxinj, fun k hk => hi.fresh k (Nat.le_trans (Nat.le_add_right _ _) hk)⟩
section
variable {P : Program} {ih : CallF} {ops : Array Oper} {b : List Nat} {c0 : Nat} {l : List Nat} {D : Nat → Drw} {base N : Nat} {g0 : Gh} {s0 : SS} {w0 : World}
theorem J.done [Memo] (pl : Pl P ops b l) (hD : ∀ (p i : Nat), l[p]? = some i → Qk P ih ops b c0 i (D p) = some (D (p + 1)))
  {li : Array Bool} {ps : Nat} {g : Gh} {s : SS} {fr : Fr} {a : Act} {w : World} (j : J P ops b c0 l D base N g0 s0 w0 li ps g s fr a w) (hall : ∀ i, i < ops.size → li.getD i false = true) :
  FR g N (D l.length).fr a ∧ Inv base g (D l.length).st.abs w ∧ Ext base g0 s0 w0 g (D l.length).st.abs w := by
 have j2 := j.advance pl hD (p := l.length) j.psle (Nat.le_refl _) (fun q i _ _ hl => hall i (pl.lt q i hl))
 obtain ⟨hg1, hg2⟩ := JjN hD l.length (Nat.le_refl _)
 refine ⟨⟨j.fra.size, by rw [hg2, ← j.same.2]; exact j.fra.defers, by rw [hg1, ← j.same.1]; exact j.fra.gl, fun t => ?_⟩, j2.inv.sub j2.sub, ?_⟩
 ·have he : Fr.at (D l.length).fr t = Fr.at fr t := by
   by_cases hw : ∃ (q i : Nat) (o : Oper), l[q]? = some i ∧ ops[i]? = some o ∧ o.dst = some t
   ·obtain ⟨q, i, o, h1, h2, h3⟩ := hw
    rw [j.f1 q i o t h1 (hall i (pl.lt q i h1)) h2 h3, JjM pl hD l.length (Nat.le_refl _) q i o t (List.getElem?_eq_some_iff.1 h1).1 h1 h2 h3]
   ·rw [Jf9 hD l.length (Nat.le_refl _) t (fun q i o _ h1 h2 h3 => hw ⟨q, i, o, h1, h2, h3⟩), j.f2 t (fun i o _ h2 h3 => by
     have hi : i < ops.size := (Array.getElem?_eq_some_iff.1 h2).1
     obtain ⟨q, hq⟩ := pl.all i hi
     exact hw ⟨q, i, o, hq, h2, h3⟩)]
  rw [he]
  exact j.fra.at_ t
 ·have x := j2.ext
  refine ⟨x.le, by show s0.ctr ≤ (D l.length).st.ctr; rw [j2.sctr]; exact x.ctr, x.below, x.own, fun b' hb' ho => x.noth b' hb' (ho.sub j2.sub), fun i hi hn => ?_⟩
  obtain ⟨h1, h2⟩ := x.keep i hi hn
  refine ⟨?_, h2⟩
  cases h : (D l.length).st.abs.box i with
  | none => rfl
  | some cs => rw [j2.s1 i cs h] at h1; simp at h1
theorem Jnc [Memo] (pl : Pl P ops b l) (hD : ∀ (p i : Nat), l[p]? = some i → Qk P ih ops b c0 i (D p) = some (D (p + 1))) (hih : JbR P base ih) (hc0 : s0.ctr ≤ c0) (h0 : ∃ k, (D 0).snaps = [(k, (D 0).st)])
  (hd : ∀ o ∈ ops.toList, Jck N o = true) {Q : Exit → Act → World → Prop} {rd : Option Nat}
  (hQ : ∀ g' a' w', FR g' N (D l.length).fr a' → Inv base g' (D l.length).st.abs w' → Ext base g0 s0 w0 g' (D l.length).st.abs w' → Q .normal a' w') :
  ∀ (fuel : Nat) (li : Array Bool) (rem : List Nat) (ps : Nat) (g : Gh) (s : SS) (fr : Fr) (a : Act) (w : World), J P ops b c0 l D base N g0 s0 w0 li ps g s fr a w → Pse P ops l ps →
   (∀ i, i < ops.size → li.getD i false = false → i ∈ rem) → rem.length ≤ fuel → wpAnyIn (Fn rd) 0 P .any ops Q fuel li a w := by
 have dflt : ∀ (li : Array Bool) (i : Nat), li.size = ops.size → i < ops.size → li.getD i true = li.getD i false := fun li i h1 h2 => by
  simp [Array.getD, h1, h2]
 have fin : ∀ {li ps g s fr a w}, J P ops b c0 l D base N g0 s0 w0 li ps g s fr a w → (∀ i, i < ops.size → li.getD i false = true) → Q .normal a w := fun j hall => by
  obtain ⟨h1, h2, h3⟩ := j.done pl hD hall
  exact hQ _ _ _ h1 h2 h3
 intro fuel
 induction fuel with
 | zero =>
  intro li rem ps g s fr a w j hpse hrem hlen
  have hnil : rem = [] := List.eq_nil_of_length_eq_zero (by omega)
  subst hnil
  have hall : ∀ i, i < ops.size → li.getD i false = true := fun i hi => by
   cases h : li.getD i false with
   | true => rfl
   | false => exact absurd (hrem i hi h) (by simp)
  refine ⟨?_, fin j hall⟩
  unfold Region.ready
  rw [List.filter_eq_nil_iff]
  intro i hi
  have hi := List.mem_range.1 hi
  rw [dflt li i j.lsz hi, hall i hi]
  simp
 | succ fuel ihf =>
  intro li rem ps g s fr a w j hpse hrem hlen
  refine ⟨fun hr => fin j ?_, fun i hi => ?_⟩
  ·
   have key : ∀ (p i : Nat), l[p]? = some i → li.getD i false = true := by
    intro p
    induction p using Nat.strongRecOn with
    | _ p ihp =>
     intro i hl
     cases h : li.getD i false with
     | true => rfl
     | false =>
      exfalso
      have hi := pl.lt p i hl
      obtain ⟨o, ho⟩ : ∃ o, ops[i]? = some o := ⟨ops[i], Array.getElem?_eq_getElem hi⟩
      have hmem : i ∈ Region.ready .any ops li := by
       unfold Region.ready
       rw [List.mem_filter]
       refine ⟨List.mem_range.2 hi, ?_⟩
       rw [dflt li i j.lsz hi, h]
       simp only [Bool.not_false, Bool.true_and, ho, Option.map_some, Option.getD_some]
       rw [← Array.all_toList]
       rw [List.all_eq_true]
       intro e he
       cases hb : Region.binds .any e with
       | false => rfl
       | true =>
        obtain ⟨q, hq, hlq⟩ := pl.pre p i o e hl ho he hb
        rw [ihp q hq e.on hlq]; rfl
      rw [hr] at hmem
      simp at hmem
   intro i hi
   obtain ⟨p, hp⟩ := pl.all i hi
   exact key p i hp
  ·unfold Region.ready at hi
   rw [List.mem_filter] at hi
   obtain ⟨hi1, hi2⟩ := hi
   have hin := List.mem_range.1 hi1
   simp only [Bool.and_eq_true, Bool.not_eq_true'] at hi2
   obtain ⟨hi2, hi3⟩ := hi2
   rw [dflt li i j.lsz hin] at hi2
   obtain ⟨o, ho⟩ : ∃ o, ops[i]? = some o := ⟨ops[i], Array.getElem?_eq_getElem hin⟩
   simp only [ho, Option.map_some, Option.getD_some] at hi3
   rw [← Array.all_toList, List.all_eq_true] at hi3
   obtain ⟨p, hp⟩ := pl.all i hin
   have hanc : ∀ k, bit b i k → li.getD k false = true := fun k hk => by
    obtain ⟨_, e, he, hb, h⟩ := pl.anc p i o k hp ho hk
    have := hi3 e he
    rw [hb] at this
    have hon : li.getD e.on false = true := by simpa using this
    rcases h with h | h
    ·rw [← h]; exact hon
    ·exact j.down _ _ hon h
   have hom : o ∈ ops.toList := List.mem_of_getElem? (i := i) (by rw [Array.getElem?_toList]; exact ho)
   refine JnB pl hD hih hc0 h0 j hpse hp ho hi2 hanc (hd o hom) (fun ps' g' s' fr' a' w' q1 q2 => ?_)
   refine ihf (li.setIfInBounds i true) (rem.erase i) ps' g' s' fr' a' w' q2 q1 (fun k hk hn => ?_) ?_
   ·rw [Qq (by rw [j.lsz]; exact hin)] at hn
    split at hn
    ·simp at hn
    ·rename_i hne
     exact (List.mem_erase_of_ne hne).2 (hrem k hk hn)
   ·have := hrem i hin hi2
    rw [List.length_erase_of_mem this]
    omega
end
theorem JnY [Memo] {P : Program} {base : Nat} (hm : P.follows .mixedOrders = true) : Ji1 P base := by
 intro ih hih id ops b l N g fr st a w d hpl hrun hd hf hi Q rd hQ
 have pl := Jis hpl
 obtain ⟨D, d0, dn, hD⟩ := JeR l _ d hrun
 refine wpIn_region_any hm ?_
 have hs0 : (D 0).st.abs = { st.abs with ctr := st.ctr + ops.size } := by rw [d0]; rfl
 have hi0 : Inv base g (D 0).st.abs w.drew := by rw [hs0]; exact (hi.raise ops.size).drew
 have hli : ∀ i, (Array.replicate ops.size false).getD i false = false := fun i => by
  simp only [Array.getD_eq_getD_getElem?, Array.getElem?_replicate]
  split <;> rfl
 refine Jnc (c0 := st.ctr) (g0 := g) (s0 := st.abs) (w0 := w) (D := D) (N := N) pl hD hih (Nat.le_refl _) ⟨ops.size, by rw [d0]⟩ hd (by rw [dn]; exact hQ) ops.size _ (List.range ops.size) 0 g (D 0).st.abs fr a w.drew ?_ (.inl rfl) (fun i hi _ => List.mem_range.2 hi) (by simp)
 refine ⟨by simp, fun i j h => ?_, fun p i o t _ h => ?_, fun t _ => by rw [d0], hf, Nat.zero_le _, fun q i hq => by omega, fun q i _ _ _ => hli i, hi0, rfl, by rw [d0]; exact ⟨rfl, rfl⟩, fun _ _ h => h, fun q i id cs _ _ h => ?_, fun id cs h => .inl h, fun i hi' _ => ?_, fun q i _ hl => ?_, ?_, ?_⟩
 ·rw [hli] at h; simp at h
 ·rw [hli] at h; simp at h
 ·rw [hli] at h; simp at h
 ·obtain ⟨f1, f4⟩ := hi.fresh (st.ctr + i) (Nat.le_add_right _ _)
  exact ⟨f1, by rw [hs0]; exact f4⟩
 ·obtain ⟨f1, f4⟩ := hi.fresh (st.ctr + i) (Nat.le_add_right _ _)
  rw [d0]; exact f4
 ·rw [hs0]; exact Nat.le_refl _
 ·rw [hs0]
  exact ⟨.refl g, Nat.le_add_right _ _, (Below.refl _ _).drew, fun _ _ _ => rfl, fun b' _ h => h, fun i _ h => ⟨h, rfl⟩⟩
theorem sound [Memo] {P : Program} (hm : P.follows .mixedOrders = true) (base : Nat) (hmemo : Jdw P base) (n : Nat) : JbR P base (ihCall (X P n)) := (JmL hmemo (JnY hm) n).2.2.1
def worldGh (w : World) : Gh := ⟨fun b o => w.cell? ⟨b, o, none⟩, fun _ => none⟩
theorem Inv.empty (w : World) : Inv w.heap.size (worldGh w) (⟨0, .nil⟩ : St).abs w :=
 ⟨Nat.le_refl _, fun _ _ _ h => h, fun i x h => by simp [St.abs, Tr.get] at h, fun _ _ _ _ h => by simp [worldGh] at h, fun _ _ _ _ _ _ _ _ _ h => by simp [St.abs, Tr.get] at h, fun _ _ => ⟨rfl, rfl⟩⟩
theorem GlV.nil (g : Gh) : GlV g .nil := fun k cs h => by simp [Tr.get] at h
theorem GlV.put {g : Gh} {gl : Gl} (h : GlV g gl) {k : Nat} {cs : List V} {l : List Value} (h1 : Rs g cs l) (h2 : g.has k 0 l) : GlV g (gl.put k cs) := fun j ds hj => by
 rw [Tr.get_put] at hj
 split at hj
 ·rename_i hjk
  subst hjk
  simp only [Option.some.injEq] at hj; subst hj
  exact ⟨l, h1, h2⟩
 ·exact h j ds hj
end Go.Vm
