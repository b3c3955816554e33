/- Lines that tell the facts: plain. -/
import Derived.Test.YtlholbhaajklhaaGreatDoorRzA
import Derived.Test.YtlholbhaajklhaaGreatDoorRzK
namespace Go.Vm
open Go Go.Proofs Go.Pa
theorem Jdd (b : UInt8) (l : List UInt8) : esc (b :: l) = Jb7 b ++ esc l := by simp [esc]
theorem JcI (b : UInt8) : (b = 10 ∧ Jb7 b = [92, 110]) ∨ (b = 92 ∧ Jb7 b = [92, 92]) ∨ (b ≠ 10 ∧ b ≠ 92 ∧ Jb7 b = [b]) := by
 unfold Jb7
 by_cases h : b = 10
 ·exact .inl ⟨h, by rw [if_pos h]⟩
 ·by_cases h2 : b = 92
  ·exact .inr (.inl ⟨h2, by rw [if_neg h, if_pos h2]⟩)
  ·exact .inr (.inr ⟨h, h2, by rw [if_neg h, if_neg h2]⟩)
theorem Jbd : ∀ (a b : List UInt8), esc a = esc b → a = b
 | [], [], _ => rfl
 | [], b :: y, h => by
  rw [Jdd] at h
  rcases JcI b with ⟨_, e⟩ | ⟨_, e⟩ | ⟨_, _, e⟩ <;> rw [e] at h <;> simp [esc] at h
 | a :: x, [], h => by
  rw [Jdd] at h
  rcases JcI a with ⟨_, e⟩ | ⟨_, e⟩ | ⟨_, _, e⟩ <;> rw [e] at h <;> simp [esc] at h
 | a :: x, b :: y, h => by
  rw [Jdd, Jdd] at h
  rcases JcI a with ⟨a1, ea⟩ | ⟨a1, ea⟩ | ⟨a1, a2, ea⟩ <;> rcases JcI b with ⟨b1, eb⟩ | ⟨b1, eb⟩ | ⟨b1, b2, eb⟩ <;> rw [ea, eb] at h <;> simp at h
  ·rw [a1, b1, Jbd x y h]
  ·exact absurd h.1.symm b2
  ·rw [a1, b1, Jbd x y h]
  ·exact absurd h.1.symm b2
  ·exact absurd h.1 a2
  ·exact absurd h.1 a2
  ·rw [h.1, Jbd x y h.2]
def QH (s : S) : Prop := s.toList ≠ [] ∧ ∀ b ∈ s.toList, b ≠ 47
def JbN (p : List S) : List UInt8 := p.flatMap fun s => 47 :: s.toList
theorem JgL (p : List S) : JbN p = [] ∨ ∃ r, JbN p = 47 :: r := by
 cases p with
 | nil => exact .inl rfl
 | cons a p => exact .inr ⟨a.toList ++ JbN p, by simp [JbN]⟩
theorem JjA : ∀ (s t X Y : List UInt8), (∀ b ∈ s, b ≠ 47) → (∀ b ∈ t, b ≠ 47) → (X = [] ∨ ∃ r, X = 47 :: r) → (Y = [] ∨ ∃ r, Y = 47 :: r) → s ++ X = t ++ Y → s = t ∧ X = Y
 | [], [], X, Y, _, _, _, _, h => ⟨rfl, by simpa using h⟩
 | [], c :: t, X, Y, _, ht, hX, _, h => by
  rcases hX with rfl | ⟨r, rfl⟩
  ·simp at h
  ·simp at h; exact absurd h.1.symm (ht c (by simp))
 | c :: s, [], X, Y, hs, _, _, hY, h => by
  rcases hY with rfl | ⟨r, rfl⟩
  ·simp at h
  ·simp at h; exact absurd h.1 (hs c (by simp))
 | c :: s, d :: t, X, Y, hs, ht, hX, hY, h => by
  simp at h
  obtain ⟨h1, h2⟩ := JjA s t X Y (fun b hb => hs b (by simp [hb])) (fun b hb => ht b (by simp [hb])) hX hY h.2
  exact ⟨by rw [h.1, h1], h2⟩
theorem JhC : ∀ {p q : List S}, (∀ s ∈ p, QH s) → (∀ s ∈ q, QH s) → JbN p = JbN q → p.map S.toList = q.map S.toList
 | [], [], _, _, _ => rfl
 | [], a :: q, _, _, h => by simp [JbN] at h
 | a :: p, [], _, _, h => by simp [JbN] at h
 | a :: p, b :: q, hp, hq, h => by
  have e : ∀ (a : S) (p : List S), JbN (a :: p) = 47 :: (a.toList ++ JbN p) := fun a p => by simp [JbN]
  rw [e, e, List.cons.injEq] at h
  obtain ⟨h1, h2⟩ := JjA _ _ _ _ (hp a (by simp)).2 (hq b (by simp)).2 (JgL p) (JgL q) h.2
  rw [List.map_cons, List.map_cons, h1, JhC (fun s hs => hp s (by simp [hs])) (fun s hs => hq s (by simp [hs])) h2]
theorem Jme {p q : List S} (hp : ∀ s ∈ p, QH s) (hq : ∀ s ∈ q, QH s) (h : Jb8 p = Jb8 q) : p.map S.toList = q.map S.toList := by
 cases p with
 | nil =>
  cases q with
  | nil => rfl
  | cons b q =>
   exfalso
   have h2 : ([47] : List UInt8) = JbN (b :: q) := h
   have := (hq b (by simp)).1
   simp [JbN] at h2
   exact this h2.1
 | cons a p =>
  cases q with
  | nil =>
   exfalso
   have h2 : JbN (a :: p) = ([47] : List UInt8) := h
   have := (hp a (by simp)).1
   simp [JbN] at h2
   exact this h2.1
  | cons b q => exact JhC hp hq h
inductive FKd (f : Fw) : Prop where
 | any (h0 : f.known = false) (h1 : f.kind = 0) (h2 : f.rest = 0) (h3 : f.beside = 0) (h : JcM f = [97, 110, 121])
 | absent (h0 : f.known = true) (h1 : f.kind = 0) (h2 : f.rest = 0) (h3 : f.beside = 0) (h : JcM f = [97, 98, 115, 101, 110, 116])
 | file (h0 : f.known = true) (h1 : f.kind = 1) (h2 : f.rest = 0) (h3 : f.beside = 0) (h : JcM f = [102, 105, 108, 101])
 | link (h0 : f.known = true) (h1 : f.kind = 3) (h2 : f.rest = 0) (h3 : f.beside = 0) (h : JcM f = [108, 105, 110, 107])
 | whole (h0 : f.known = true) (h1 : f.kind = 2) (h2 : f.rest = 1) (h3 : f.beside = 0) (h : JcM f = [100, 105, 114, 32, 119, 104, 111, 108, 101])
 | more (h0 : f.known = true) (h1 : f.kind = 2) (h2 : f.rest = 2) (h3 : 0 ≤ f.beside ∧ f.beside ≤ 60) (h : JcM f = [100, 105, 114, 32, 109, 111, 114, 101, 32] ++ Jb9 f.beside.toNat)
 | dir (h0 : f.known = true) (h1 : f.kind = 2) (h2 : f.rest = 0) (h3 : f.beside = 0) (h : JcM f = [100, 105, 114])
end Go.Vm
namespace Go.Vm
open Go Go.Proofs Go.Pa
end Go.Vm
namespace Go.Vm
open Go Go.Proofs Go.Pa
abbrev tl (p : List S) : List (List UInt8) := p.map S.toList
theorem JnI {a b : S} : a.same b = true ↔ a.toList = b.toList := by rw [S.same_eq]; exact beq_iff_eq
theorem JhD : ∀ {a b : List S}, Jcb S.same a b = true ↔ tl a = tl b
 | [], [] => by simp [Jcb]
 | [], _ :: _ => by simp [Jcb]
 | _ :: _, [] => by simp [Jcb]
 | a :: x, b :: y => by
  have ih := JhD (a := x) (b := y)
  simp only [Jcb, Bool.and_eq_true, List.map_cons, List.cons.injEq, JnI, ih]
theorem JjB {f : Fw} (h : Jb4 f = true) : ∀ s ∈ f.names, QH s := by
 intro s hs
 unfold Jb4 at h
 cases hh : JdD f with
 | false => rw [hh] at h; cases h
 | true =>
  rw [hh] at h
  cases hd : JcE f with
  | false =>
   rw [hd] at h
   simp only [cond_true, cond_false, Jjr, Bool.and_eq_true, decide_eq_true_eq] at h
   have h0 := h.1.1
   rw [List.length_eq_zero_iff] at h0
   rw [h0] at hs; cases hs
  | true =>
   rw [hd] at h
   simp only [cond_true, Bool.and_eq_true] at h
   obtain ⟨j, hj, rfl⟩ := List.getElem_of_mem hs
   have h1 := List.all_eq_true.1 h.1 j (List.mem_range.2 hj)
   have h2 : JbW f.names j = false := by simpa using h1
   unfold JbW at h2
   rw [Bool.or_eq_false_iff] at h2
   rw [JhT hj] at h2
   have h3 : JbM f.names[j] = true := by simpa using h2.1
   unfold JbM at h3
   simp only [Bool.and_eq_true] at h3
   obtain ⟨⟨⟨⟨n0, _⟩, _⟩, _⟩, hsp⟩ := h3
   refine ⟨fun he => ?_, fun b hb he => ?_⟩
   ·have := congrArg List.length he
    rw [S.len] at this
    simp at n0
    simp at this
    omega
   ·subst he
    have : Jak f.names[j].toList = true := by
     unfold Jak
     rw [List.any_eq_true]
     exact ⟨47, hb, rfl⟩
    rw [this] at hsp; cases hsp
theorem Jfi {l : List Fw} (hm : MayF l) : ∀ m, m < l.length → ∀ s ∈ QW l m, QH s := by
 intro m
 induction m using Nat.strongRecOn with
 | _ m ih =>
  intro h s hs
  by_cases h0 : m = 0
  ·subst h0; rw [JcY] at hs; cases hs
  ·obtain ⟨u1, u2, _, _, hmem⟩ := Ja9 hm (by omega) h
   rw [Jbi hm (by omega) h] at hs
   rcases List.mem_append.1 hs with hs | hs
   ·exact ih _ u1 u2 s hs
   ·obtain ⟨j, hj, hjk⟩ := List.getElem_of_mem hmem
    have hlen := JcX (hm.one _ u2)
    have hn := Jfs hm u2 hj (by omega)
    rw [hjk] at hn
    rw [List.mem_singleton.1 hs, hn]
    exact JjB (hm.one _ u2) _ (List.getElem_mem _)
end Go.Vm
namespace Go.Vm
open Go Go.Proofs Go.Pa
theorem Jg4 {l : List S} (h : Q9 l = true) : ∀ s ∈ l, QH s := by
 intro s hs
 obtain ⟨j, hj, rfl⟩ := List.getElem_of_mem hs
 have h1 := List.all_eq_true.1 h j (List.mem_range.2 hj)
 have h2 : JbW l j = false := by simpa using h1
 unfold JbW at h2
 rw [Bool.or_eq_false_iff] at h2
 rw [JhT hj] at h2
 have h3 : JbM l[j] = true := by simpa using h2.1
 unfold JbM at h3
 simp only [Bool.and_eq_true] at h3
 obtain ⟨⟨⟨⟨n0, _⟩, _⟩, _⟩, hsp⟩ := h3
 refine ⟨fun he => ?_, fun b hb he => ?_⟩
 ·have := congrArg List.length he
  rw [S.len] at this
  simp at n0
  simp at this
  omega
 ·subst he
  have : Jak l[j].toList = true := by
   unfold Jak
   rw [List.any_eq_true]
   exact ⟨47, hb, rfl⟩
  rw [this] at hsp; cases hsp
def JgM (b : UInt8) : List UInt8 := if b = 10 then [92, 110] else if b = 92 then [92, 92] else if b = 58 then [92, 58] else [b]
theorem JcJ (b : UInt8) : (b = 10 ∧ JgM b = [92, 110]) ∨ (b = 92 ∧ JgM b = [92, 92]) ∨ (b = 58 ∧ JgM b = [92, 58]) ∨ (b ≠ 10 ∧ b ≠ 92 ∧ b ≠ 58 ∧ JgM b = [b]) := by
 unfold JgM
 by_cases h1 : b = 10
 ·exact .inl ⟨h1, by rw [if_pos h1]⟩
 ·by_cases h2 : b = 92
  ·exact .inr (.inl ⟨h2, by rw [if_neg h1, if_pos h2]⟩)
  ·by_cases h3 : b = 58
   ·exact .inr (.inr (.inl ⟨h3, by rw [if_neg h1, if_neg h2, if_pos h3]⟩))
   ·exact .inr (.inr (.inr ⟨h1, h2, h3, by rw [if_neg h1, if_neg h2, if_neg h3]⟩))
theorem JgN : ∀ l : List UInt8, JaS (esc l) = l.flatMap JgM
 | [] => rfl
 | a :: l => by
  rw [Jdd, Jd4, JgN l, List.flatMap_cons]
  congr 1
  unfold Jb7 JgM
  by_cases h1 : a = 10
  ·rw [if_pos h1, if_pos h1]; rfl
  ·rw [if_neg h1, if_neg h1]
   by_cases h2 : a = 92
   ·rw [if_pos h2, if_pos h2]; rfl
   ·rw [if_neg h2, if_neg h2]
    simp [JaS]
theorem JhE : ∀ (a b x y : List UInt8), a.flatMap JgM ++ 58 :: x = b.flatMap JgM ++ 58 :: y → a = b ∧ x = y
 | [], [], x, y, h => by simpa using h
 | [], c :: b, x, y, h => by
  exfalso
  rw [List.flatMap_cons, List.append_assoc, List.flatMap_nil, List.nil_append] at h
  rcases JcJ c with ⟨_, e⟩ | ⟨_, e⟩ | ⟨_, e⟩ | ⟨_, _, n, e⟩ <;> rw [e] at h <;> simp at h
  exact n h.1.symm
 | c :: a, [], x, y, h => by
  exfalso
  rw [List.flatMap_cons, List.append_assoc, List.flatMap_nil, List.nil_append] at h
  rcases JcJ c with ⟨_, e⟩ | ⟨_, e⟩ | ⟨_, e⟩ | ⟨_, _, n, e⟩ <;> rw [e] at h <;> simp at h
  exact n h.1
 | c :: a, d :: b, x, y, h => by
  rw [List.flatMap_cons, List.flatMap_cons, List.append_assoc, List.append_assoc] at h
  have key : c = d ∧ a.flatMap JgM ++ 58 :: x = b.flatMap JgM ++ 58 :: y := by
   rcases JcJ c with ⟨c1, e⟩ | ⟨c1, e⟩ | ⟨c1, e⟩ | ⟨c1, c2, c3, e⟩ <;> rcases JcJ d with ⟨d1, f⟩ | ⟨d1, f⟩ | ⟨d1, f⟩ | ⟨d1, d2, d3, f⟩ <;> rw [e, f] at h <;> simp only [List.cons_append, List.nil_append, List.cons.injEq] at h
   ·exact ⟨by rw [c1, d1], h.2.2⟩
   ·exact absurd h.2.1 (by decide)
   ·exact absurd h.2.1 (by decide)
   ·exact absurd h.1.symm d2
   ·exact absurd h.2.1 (by decide)
   ·exact ⟨by rw [c1, d1], h.2.2⟩
   ·exact absurd h.2.1 (by decide)
   ·exact absurd h.1.symm d2
   ·exact absurd h.2.1 (by decide)
   ·exact absurd h.2.1 (by decide)
   ·exact ⟨by rw [c1, d1], h.2.2⟩
   ·exact absurd h.1.symm d2
   ·exact absurd h.1 c2
   ·exact absurd h.1 c2
   ·exact absurd h.1 c2
   ·exact h
  obtain ⟨h1, h2⟩ := JhE a b x y key.2
  exact ⟨by rw [key.1, h1], h2⟩
theorem JgO {p q : List S} {x y : List UInt8} (hp : ∀ s ∈ p, QH s) (hq : ∀ s ∈ q, QH s) (h : JeB p ++ [58, 32] ++ x = JeB q ++ [58, 32] ++ y) : tl p = tl q ∧ x = y := by
 unfold JeB at h
 rw [JgN, JgN, List.append_assoc, List.append_assoc] at h
 obtain ⟨h1, h2⟩ := JhE _ _ _ _ h
 exact ⟨Jme hp hq h1, by simpa using h2⟩
theorem JnJ {p q : List S} (hp : ∀ s ∈ p, QH s) (hq : ∀ s ∈ q, QH s) (h : JeB p = JeB q) : tl p = tl q := (JgO (x := []) (y := []) hp hq (by rw [h])).1
theorem JnK (f : Fw) {s t : S} (h : s.toList = t.toList) : Je7 f s = Je7 f t := by
 unfold Je7
 simp only [S.same_eq, h]
theorem JjC (l : List Fw) : ∀ {p q : List S} (n : Nat), tl p = tl q → Jdy l n p = Jdy l n q
 | [], [], n, _ => rfl
 | [], _ :: _, n, h => by simp at h
 | _ :: _, [], n, h => by simp at h
 | s :: p, t :: q, n, h => by
  simp only [List.map_cons, List.cons.injEq] at h
  simp only [Jdy]
  cases l[n]? with
  | none => rfl
  | some f =>
   simp only [JnK f h.1]
   cases Je7 f t with
   | none => rfl
   | some k => exact JjC l _ h.2
theorem JjD {l : List Fw} (hm : MayF l) {m n : Int} (hm0 : 0 ≤ m) (hm1 : m < (l.length : Int)) (hn0 : 0 ≤ n) (hn1 : n < (l.length : Int)) (h : JfW l m = JfW l n) : m = n := by
 have h1 := JnJ (Jfi hm m.toNat (by omega)) (Jfi hm n.toNat (by omega)) h
 have h2 := JfQ hm m.toNat (by omega)
 have h3 := JfQ hm n.toNat (by omega)
 rw [JjC l 0 h1, h3] at h2
 have := Option.some.inj h2
 omega
mutual
def eqT : Tw → Tw → Prop
 | .mk r k t b _ ns _ ks, .mk r' k' t' b' _ ns' _ ks' => r = r' ∧ k = k' ∧ t.toList = t'.toList ∧ b = b' ∧ tl ns = tl ns' ∧ Jot ks ks'
def Jot : List Tw → List Tw → Prop
 | [], [] => True
 | t :: l, u :: m => eqT t u ∧ Jot l m
 | [], _ :: _ => False
 | _ :: _, [] => False
end
theorem Jln : ∀ {a b : List Tw}, Jot a b → a.length = b.length ∧ ∀ i (h : i < a.length) (h' : i < b.length), eqT a[i] b[i]
 | [], [], _ => ⟨rfl, fun i h => by simp at h⟩
 | [], _ :: _, h => h.elim
 | _ :: _, [], h => h.elim
 | t :: a, u :: b, h => by
  obtain ⟨h1, h2⟩ := Jln (a := a) (b := b) h.2
  refine ⟨by simp [h1], fun i hi hi' => ?_⟩
  cases i with
  | zero => exact h.1
  | succ i => simpa using h2 i (by simpa using hi) (by simpa using hi')
def Deep (d : Nat) (z : List UInt8) : Prop := ∃ (q : List S) (o : List UInt8), z = JeB q ++ [58, 32] ++ o ∧ (∀ s ∈ q, QH s) ∧ q.length = d
theorem Deep.one {d e : Nat} {z : List UInt8} (h : Deep d z) (k : Deep e z) : d = e := by
 obtain ⟨q, o, h1, h2, h3⟩ := h
 obtain ⟨q', o', k1, k2, k3⟩ := k
 have := congrArg List.length (JgO h2 k2 (h1.symm.trans k1)).1
 rw [List.length_map, List.length_map] at this
 omega
theorem JfE {l : List Fw} {ref : Int} {kind : Nat} {text : S} {base : Int} {nv : V} {names : List S} {kv : V} {kids : List Tw} (h : Jae l (.mk ref kind text base nv names kv kids) = true) :
  names.length = kids.length ∧ (∀ s ∈ names, QH s) ∧ ∀ t ∈ kids, Jae l t = true := by
 unfold Jae at h
 cases h1 : decide (ref = -1) with
 | true =>
  rw [h1, cond_true] at h
  cases h2 : decide (kind = 2) with
  | true =>
   rw [h2, cond_true] at h
   simp only [Bool.and_eq_true, decide_eq_true_eq] at h
   exact ⟨h.2.1, Jg4 h.2.2.2.1, Jb6.1 h.2.2.2.2⟩
  | false =>
   rw [h2, cond_false] at h
   have h0 : names.length = 0 ∧ kids.length = 0 := by
    cases h3 : decide (kind = 0) with
    | true => rw [h3, cond_true] at h; simp only [Bool.and_eq_true, decide_eq_true_eq] at h; exact h.2.2
    | false => rw [h3, cond_false] at h; simp only [Bool.and_eq_true, decide_eq_true_eq] at h; exact ⟨h.2.1, h.2.2.1⟩
   refine ⟨h0.1.trans h0.2.symm, ?_, ?_⟩
   ·rw [List.length_eq_zero_iff.1 h0.1]; exact fun s hs => by cases hs
   ·rw [List.length_eq_zero_iff.1 h0.2]; exact fun s hs => by cases hs
 | false =>
  rw [h1, cond_false] at h
  simp only [Bool.and_eq_true, decide_eq_true_eq] at h
  have h0 := h.2.2.2.2.2
  refine ⟨h0.1.trans h0.2.symm, ?_, ?_⟩
  ·rw [List.length_eq_zero_iff.1 h0.1]; exact fun s hs => by cases hs
  ·rw [List.length_eq_zero_iff.1 h0.2]; exact fun s hs => by cases hs
theorem JcK {p : List S} {n : S} (hp : ∀ s ∈ p, QH s) (hn : QH n) : ∀ s ∈ p ++ [n], QH s := fun s hs => by
 rcases List.mem_append.1 hs with h | h
 ·exact hp s h
 ·rw [List.mem_singleton.1 h]; exact hn
mutual
theorem JkG (l : List Fw) : ∀ (t : Tw) (p : List S), Jae l t = true → (∀ s ∈ p, QH s) → ∀ z ∈ J6 l t p, ∃ d, Deep d z ∧ p.length ≤ d
 | .mk ref kind text base nv names kv kids, p, hm, hp, z, hz => by
  simp only [J6, List.mem_cons] at hz
  rcases hz with rfl | hz
  ·exact ⟨p.length, ⟨p, _, rfl, hp, rfl⟩, Nat.le_refl _⟩
  ·obtain ⟨_, k2, k3⟩ := JfE hm
   cases h : decide (0 ≤ ref) with
   | true => rw [h, cond_true] at hz; cases hz
   | false =>
    rw [h, cond_false] at hz
    obtain ⟨d, h1, h2⟩ := Jde l kids names p k3 k2 hp z hz
    exact ⟨d, h1, by omega⟩
theorem Jde (l : List Fw) : ∀ (ts : List Tw) (ns p : List S), (∀ t ∈ ts, Jae l t = true) → (∀ s ∈ ns, QH s) → (∀ s ∈ p, QH s) → ∀ z ∈ Q7 l ts ns p, ∃ d, Deep d z ∧ p.length + 1 ≤ d
 | [], ns, p, _, _, _, z, hz => by rw [Jbf] at hz; cases hz
 | t :: ts, [], p, _, _, _, z, hz => by simp [Q7] at hz
 | t :: ts, n :: ns, p, ht, hn, hp, z, hz => by
  simp only [Q7, List.mem_append] at hz
  rcases hz with hz | hz
  ·obtain ⟨d, h1, h2⟩ := JkG l t (p ++ [n]) (ht t (by simp)) (JcK hp (hn n (by simp))) z hz
   exact ⟨d, h1, by simpa using h2⟩
  ·exact Jde l ts ns p (fun t h => ht t (by simp [h])) (fun s h => hn s (by simp [h])) hp z hz
end
theorem Jam (l : List Fw) : ∀ (ts : List Tw) (ns p : List S), Q7 l ts ns p = (List.zipWith (fun t n => J6 l t (p ++ [n])) ts ns).flatten
 | [], ns, p => by rw [Jbf]; simp
 | t :: ts, [], p => by simp [Q7]
 | t :: ts, n :: ns, p => by rw [Q7, Jam l ts ns p]; simp
theorem JgP {α : Type} {m : α → Prop} : ∀ {r r' F F' : List α}, (∀ y ∈ r, ¬ m y) → (∀ y ∈ r', ¬ m y) → (∀ z ∈ F.head?, m z) → (∀ z ∈ F'.head?, m z) → r ++ F = r' ++ F' → r = r' ∧ F = F'
 | [], [], F, F', _, _, _, _, h => ⟨rfl, h⟩
 | [], y :: r', F, F', _, h2, h3, _, h => by
  have : F = y :: (r' ++ F') := h
  exact absurd (h3 y (by rw [this]; rfl)) (h2 y (by simp))
 | y :: r, [], F, F', h1, _, _, h4, h => by
  have : F' = y :: (r ++ F) := h.symm
  exact absurd (h4 y (by rw [this]; rfl)) (h1 y (by simp))
 | y :: r, y' :: r', F, F', h1, h2, h3, h4, h => by
  simp only [List.cons_append, List.cons.injEq] at h
  obtain ⟨k1, k2⟩ := JgP (fun y hy => h1 y (by simp [hy])) (fun y hy => h2 y (by simp [hy])) h3 h4 h.2
  exact ⟨by rw [h.1, k1], k2⟩
def Blk {α : Type} (m : α → Prop) (b : List α) : Prop := ∃ z r, b = z :: r ∧ m z ∧ ∀ y ∈ r, ¬ m y
theorem Blk.head {α : Type} {m : α → Prop} : ∀ {B : List (List α)}, (∀ b ∈ B, Blk m b) → ∀ z ∈ B.flatten.head?, m z
 | [], _, z, hz => by simp at hz
 | b :: B, h, z, hz => by
  obtain ⟨y, r, rfl, hy, _⟩ := h b (by simp)
  simp at hz
  subst hz; exact hy
theorem JeX {α : Type} {m : α → Prop} : ∀ {B B' : List (List α)}, (∀ b ∈ B, Blk m b) → (∀ b ∈ B', Blk m b) → B.flatten = B'.flatten → B = B'
 | [], [], _, _, _ => rfl
 | [], b :: B', _, h, e => by
  obtain ⟨y, r, rfl, _⟩ := h b (by simp)
  simp at e
 | b :: B, [], h, _, e => by
  obtain ⟨y, r, rfl, _⟩ := h b (by simp)
  simp at e
 | b :: B, b' :: B', h, h', e => by
  obtain ⟨y, r, rfl, hy, hr⟩ := h b (by simp)
  obtain ⟨y', r', rfl, hy', hr'⟩ := h' b' (by simp)
  simp only [List.flatten_cons, List.cons_append, List.cons.injEq] at e
  obtain ⟨k1, k2⟩ := JgP hr hr' (Blk.head fun b hb => h b (by simp [hb])) (Blk.head fun b hb => h' b (by simp [hb])) e.2
  rw [e.1, k1, JeX (fun b hb => h b (by simp [hb])) (fun b hb => h' b (by simp [hb])) k2]
theorem Jlo {l : List Fw} {t : Tw} {p : List S} {n : S} (hm : Jae l t = true) (hp : ∀ s ∈ p, QH s) (hn : QH n) : Blk (Deep (p.length + 1)) (J6 l t (p ++ [n])) := by
 have hpn := JcK hp hn
 cases t with
 | mk ref kind text base nv names kv kids =>
  obtain ⟨_, k2, k3⟩ := JfE hm
  refine ⟨_, _, by rw [J6], ⟨p ++ [n], _, rfl, hpn, by simp⟩, fun y hy hd => ?_⟩
  cases h : decide (0 ≤ ref) with
  | true => rw [h, cond_true] at hy; cases hy
  | false =>
   rw [h, cond_false] at hy
   obtain ⟨d, h1, h2⟩ := Jde l kids names (p ++ [n]) k3 k2 hpn y hy
   have := hd.one h1
   simp at h2
   omega
theorem Jou {l : List Fw} (hf : MayF l) {ref ref' : Int} {kind kind' : Nat} {text text' : S} {base base' : Int} {nv nv' : V} {names names' : List S} {kv kv' : V} {kids kids' : List Tw}
  (h : Jae l (.mk ref kind text base nv names kv kids) = true) (h' : Jae l (.mk ref' kind' text' base' nv' names' kv' kids') = true) (e : Jct l ref kind text base = Jct l ref' kind' text' base') :
  ref = ref' ∧ kind = kind' ∧ text.toList = text'.toList ∧ base = base' := by
 have form : ∀ {ref : Int} {kind : Nat} {text : S} {base : Int} {nv : V} {names : List S} {kv : V} {kids : List Tw}, Jae l (.mk ref kind text base nv names kv kids) = true →
   (0 ≤ ref ∧ ref < (l.length : Int) ∧ base = -1 ∧ kind = 0 ∧ text.toList = [] ∧ Jct l ref kind text base = [97, 115, 32] ++ JfW l ref) ∨
   (ref = -1 ∧ base = -1 ∧ kind = 0 ∧ text.toList = [] ∧ Jct l ref kind text base = [97, 98, 115, 101, 110, 116]) ∨
   (ref = -1 ∧ base = -1 ∧ kind = 1 ∧ Jct l ref kind text base = [102, 105, 108, 101, 32] ++ esc text.toList) ∨
   (ref = -1 ∧ base = -1 ∧ kind = 3 ∧ Jct l ref kind text base = [108, 105, 110, 107, 32] ++ esc text.toList) ∨
   (ref = -1 ∧ kind = 2 ∧ text.toList = [] ∧ base = -1 ∧ Jct l ref kind text base = [100, 105, 114]) ∨
   (ref = -1 ∧ kind = 2 ∧ text.toList = [] ∧ 0 ≤ base ∧ base < (l.length : Int) ∧ Jct l ref kind text base = [100, 105, 114] ++ ([32, 111, 118, 101, 114, 32] ++ JfW l base)) := by
  intro ref kind text base nv names kv kids h
  have hnil : text.n = 0 → text.toList = [] := fun h => List.eq_nil_of_length_eq_zero (by rw [S.len]; exact h)
  unfold Jae at h
  by_cases h1 : ref = -1
  ·have hr : decide (0 ≤ ref) = false := decide_eq_false (by omega)
   rw [decide_eq_true h1, cond_true] at h
   by_cases h2 : kind = 2
   ·rw [decide_eq_true h2, cond_true] at h
    simp only [Bool.and_eq_true, decide_eq_true_eq, Bool.or_eq_true] at h
    by_cases hb : base = -1
    ·refine .inr (.inr (.inr (.inr (.inl ⟨h1, h2, hnil h.1, hb, ?_⟩))))
     unfold Jct
     rw [hr, cond_false, h2, hb]; rfl
    ·have hd : Je0 l base = true := by
      rcases h.2.2.1 with h | h
      ·exact absurd h hb
      ·exact h
     unfold Je0 at hd
     simp only [Bool.and_eq_true, decide_eq_true_eq] at hd
     refine .inr (.inr (.inr (.inr (.inr ⟨h1, h2, hnil h.1, hd.1, hd.2.1, ?_⟩))))
     unfold Jct JjO
     rw [hr, cond_false, h2, decide_eq_true hd.1]; rfl
   ·rw [decide_eq_false h2, cond_false] at h
    by_cases h3 : kind = 0
    ·rw [decide_eq_true h3, cond_true] at h
     simp only [Bool.and_eq_true, decide_eq_true_eq] at h
     refine .inr (.inl ⟨h1, h.2.1, h3, hnil h.1, ?_⟩)
     unfold Jct
     rw [hr, cond_false, h3]; rfl
    ·rw [decide_eq_false h3, cond_false] at h
     simp only [Bool.and_eq_true, decide_eq_true_eq, JfK, Bool.or_eq_true] at h
     rcases h.2.2.2.1 with h4 | h4
     ·refine .inr (.inr (.inl ⟨h1, h.1, h4, ?_⟩))
      unfold Jct
      rw [hr, cond_false, h4]; rfl
     ·refine .inr (.inr (.inr (.inl ⟨h1, h.1, h4, ?_⟩)))
      unfold Jct
      rw [hr, cond_false, h4]; rfl
  ·rw [decide_eq_false h1, cond_false] at h
   simp only [Bool.and_eq_true, decide_eq_true_eq] at h
   refine .inl ⟨h.1, h.2.1, h.2.2.1, h.2.2.2.1, hnil h.2.2.2.2.1, ?_⟩
   unfold Jct
   rw [decide_eq_true h.1, cond_true]
 rcases form h with ⟨a1, a2, a3, a4, a5, ae⟩ | ⟨a1, a2, a3, a4, ae⟩ | ⟨a1, a2, a3, ae⟩ | ⟨a1, a2, a3, ae⟩ | ⟨a1, a2, a3, a4, ae⟩ | ⟨a1, a2, a3, a4, a5, ae⟩ <;>
  rcases form h' with ⟨b1, b2, b3, b4, b5, be⟩ | ⟨b1, b2, b3, b4, be⟩ | ⟨b1, b2, b3, be⟩ | ⟨b1, b2, b3, be⟩ | ⟨b1, b2, b3, b4, be⟩ | ⟨b1, b2, b3, b4, b5, be⟩ <;>
  rw [ae, be] at e <;> simp only [List.cons_append, List.nil_append, List.cons.injEq, true_and] at e <;> try (first | exact absurd e.1 (by decide) | exact absurd e.2.1 (by decide))
 ·exact ⟨JjD hf a1 a2 b1 b2 e, by rw [a4, b4], by rw [a5, b5], by rw [a3, b3]⟩
 ·exact ⟨by rw [a1, b1], by rw [a3, b3], by rw [a4, b4], by rw [a2, b2]⟩
 ·exact ⟨by rw [a1, b1], by rw [a3, b3], Jbd _ _ e, by rw [a2, b2]⟩
 ·exact ⟨by rw [a1, b1], by rw [a3, b3], Jbd _ _ e, by rw [a2, b2]⟩
 ·exact ⟨by rw [a1, b1], by rw [a2, b2], by rw [a3, b3], by rw [a4, b4]⟩
 ·exact absurd e (by simp)
 ·exact absurd e (by simp)
 ·exact ⟨by rw [a1, b1], by rw [a2, b2], by rw [a3, b3], JjD hf a4 a5 b4 b5 e⟩
mutual
theorem JjE {l : List Fw} (hf : MayF l) : ∀ (t u : Tw) (p q : List S), Jae l t = true → Jae l u = true → (∀ s ∈ p, QH s) → (∀ s ∈ q, QH s) → J6 l t p = J6 l u q → tl p = tl q ∧ eqT t u
 | .mk ref kind text base nv names kv kids, .mk ref' kind' text' base' nv' names' kv' kids', p, q, hm, hm', hp, hq, h => by
  simp only [J6, List.cons.injEq] at h
  obtain ⟨h1, h2⟩ := h
  obtain ⟨h3, h4⟩ := JgO hp hq h1
  obtain ⟨rfl, rfl, k3, rfl⟩ := Jou hf hm hm' h4
  obtain ⟨n1, n2, n3⟩ := JfE hm
  obtain ⟨m1, m2, m3⟩ := JfE hm'
  refine ⟨h3, rfl, rfl, k3, rfl, ?_⟩
  by_cases hr : 0 ≤ ref
  ·have z : ∀ {text : S} {base : Int} {nv : V} {names : List S} {kv : V} {kids : List Tw}, Jae l (.mk ref kind text base nv names kv kids) = true → names = [] ∧ kids = [] := fun h => by
    unfold Jae at h
    rw [decide_eq_false (show ¬ ref = -1 by omega), cond_false] at h
    simp only [Bool.and_eq_true, decide_eq_true_eq, List.length_eq_zero_iff] at h
    exact h.2.2.2.2.2
   obtain ⟨rfl, rfl⟩ := z hm
   obtain ⟨rfl, rfl⟩ := z hm'
   exact ⟨rfl, trivial⟩
  ·rw [decide_eq_false hr, cond_false, cond_false] at h2
   exact JhF hf kids kids' names names' p q n1 m1 n3 m3 n2 m2 hp hq (by have := congrArg List.length h3; simpa using this) h2
theorem JhF {l : List Fw} (hf : MayF l) : ∀ (ts us : List Tw) (ns ms p q : List S), ns.length = ts.length → ms.length = us.length → (∀ t ∈ ts, Jae l t = true) → (∀ t ∈ us, Jae l t = true) → (∀ s ∈ ns, QH s) → (∀ s ∈ ms, QH s) →
  (∀ s ∈ p, QH s) → (∀ s ∈ q, QH s) → p.length = q.length → Q7 l ts ns p = Q7 l us ms q → tl ns = tl ms ∧ Jot ts us
 | [], us, ns, ms, p, q, hl, hl', _, hu, _, hm, hp, hq, hpq, h => by
  rw [Jbf, Jam] at h
  have h1 := JeX (m := Deep (q.length + 1)) (B := []) (by simp) (fun b hb => by
   obtain ⟨i, hi, rfl⟩ := List.getElem_of_mem hb
   rw [List.getElem_zipWith]
   simp only [List.length_zipWith] at hi
   exact Jlo (hu _ (List.getElem_mem _)) hq (hm _ (List.getElem_mem _))) h
  have h2 := congrArg List.length h1
  simp only [List.length_nil, List.length_zipWith, hl', Nat.min_self] at h2
  obtain rfl : us = [] := List.length_eq_zero_iff.1 h2.symm
  obtain rfl : ms = [] := List.length_eq_zero_iff.1 hl'
  obtain rfl : ns = [] := List.length_eq_zero_iff.1 hl
  exact ⟨rfl, trivial⟩
 | t :: ts, us, ns, ms, p, q, hl, hl', ht, hu, hn, hm, hp, hq, hpq, h => by
  have hB : ∀ {ts : List Tw} {ns p : List S}, p.length = q.length → (∀ t ∈ ts, Jae l t = true) → (∀ s ∈ ns, QH s) → (∀ s ∈ p, QH s) → ∀ b ∈ List.zipWith (fun t n => J6 l t (p ++ [n])) ts ns, Blk (Deep (q.length + 1)) b := fun he ht hn hp b hb => by
   obtain ⟨i, hi, rfl⟩ := List.getElem_of_mem hb
   rw [List.getElem_zipWith, ← he]
   exact Jlo (ht _ (List.getElem_mem _)) hp (hn _ (List.getElem_mem _))
  rw [Jam, Jam] at h
  have h1 := JeX (hB hpq ht hn hp) (hB rfl hu hm hq) h
  cases ns with
  | nil => simp at hl
  | cons n ns =>
   cases us with
   | nil => simp at h1
   | cons u us =>
    cases ms with
    | nil => simp at hl'
    | cons m ms =>
     simp only [List.zipWith_cons_cons, List.cons.injEq] at h1
     obtain ⟨k1, k2⟩ := JjE hf t u (p ++ [n]) (q ++ [m]) (ht t (by simp)) (hu u (by simp)) (JcK hp (hn n (by simp))) (JcK hq (hm m (by simp))) h1.1
     obtain ⟨k3, k4⟩ := JhF hf ts us ns ms p q (by simpa using hl) (by simpa using hl') (fun t h => ht t (by simp [h])) (fun t h => hu t (by simp [h])) (fun s h => hn s (by simp [h])) (fun s h => hm s (by simp [h])) hp hq hpq (by rw [Jam, Jam, h1.2])
     have k1' : (p ++ [n]).map S.toList = (q ++ [m]).map S.toList := k1
     rw [List.map_append, List.map_append] at k1'
     have k5 : n.toList = m.toList := by simpa using (List.append_inj k1' (by simpa using hpq)).2
     exact ⟨by show n.toList :: tl ns = m.toList :: tl ms; rw [k5, k3], k2, k4⟩
end
end Go.Vm
namespace Go.Vm
open Go Go.Proofs Go.Pa
attribute [local simp] OkS QL OkG Qf Qs OkD J3 Qe JL Je Jk vop Jq Jx ev evs toV Jj Fr.dsTo Fr.glTo Fr.toNone Jg Jh Ji J7 QI Jc JF Jt V.undef JX JQ Qg J8 J9 Qa Qh Qi JT Qb Qj Qc JR Qk JE Jw Jy JD JG Ju JS JW JK Ql
def Jpn (l : List UInt8) : Nat := l.foldl (fun a b => a * 10 + (b.toNat - 48)) 0
theorem Jpo {m n : Nat} (hm : m ≤ 255) (hn : n ≤ 255) (h : Jb9 m = Jb9 n) : m = n := by
 have hc : ((List.range 256).all fun n => Nat.beq (Jpn (Jb9 n)) n) = true := by kernel_rfl
 have h1 := Nat.eq_of_beq_eq_true (List.all_eq_true.1 hc m (List.mem_range.2 (by omega)))
 have h2 := Nat.eq_of_beq_eq_true (List.all_eq_true.1 hc n (List.mem_range.2 (by omega)))
 rw [← h1, ← h2, h]
theorem JcL {s : S} (h : s.n = 0) : s.toList = [] := List.eq_nil_of_length_eq_zero (by rw [S.len]; exact h)
theorem JnL {s t : Sw} (h : JdZ s = JdZ t) : s.out.toList = t.out.toList ∧ s.err.toList = t.err.toList := by
 unfold JdZ at h
 by_cases a : s.out.n = 0 <;> by_cases b : s.err.n = 0 <;> by_cases c : t.out.n = 0 <;> by_cases d : t.err.n = 0 <;> simp [a, b, c, d, JaA] at h
 ·exact ⟨by rw [JcL a, JcL c], by rw [JcL b, JcL d]⟩
 ·exact ⟨by rw [JcL a, JcL c], Jbd _ _ h⟩
 ·exact ⟨Jbd _ _ h, by rw [JcL b, JcL d]⟩
 ·exact ⟨Jbd _ _ h.1, Jbd _ _ h.2⟩
theorem JhG (s : Sw) : ∀ z ∈ (JdZ s).head?, z[2]? ≠ some 116 := by
 intro z hz
 unfold JdZ at hz
 revert hz
 cases decide (s.out.n = 0) <;> cases decide (s.err.n = 0) <;> simp [JaA] <;> rintro rfl <;> simp
theorem JnM {s t : Sw} (hs : Jdr s = true) (ht : Jdr t = true) (h : Jcr s = Jcr t) : s.inc = t.inc ∧ s.why.toList = t.why.toList ∧ s.code = t.code := by
 have hX : classN s = classN t ∧ cond s.inc (esc s.why.toList) (Jb9 s.code.toNat) = cond t.inc (esc t.why.toList) (Jb9 t.code.toNat) := by
  unfold Jcr at h
  rcases Jhy s with a | a | a <;> rcases Jhy t with b | b | b <;> rw [a, b] at h <;> simp [JaT] at h
  ·exact ⟨by rw [a, b], h⟩
  ·exact ⟨by rw [a, b], h⟩
  ·exact ⟨by rw [a, b], h⟩
 obtain ⟨h1, h2⟩ := hX
 have hi : s.inc = t.inc := by
  unfold classN at h1
  cases hs : s.inc <;> cases ht : t.inc <;> rw [hs, ht] at h1 <;> first | rfl | (revert h1; cases decide (s.code = 0) <;> cases decide (t.code = 0) <;> simp)
 obtain ⟨_, _, c1, c2⟩ := JbB hs
 obtain ⟨_, _, d1, d2⟩ := JbB ht
 refine ⟨hi, ?_⟩
 cases hb : s.inc with
 | true =>
  rw [← hi, hb, cond_true, cond_true] at h2
  exact ⟨Jbd _ _ h2, by rw [c2 hb, d2 (hi ▸ hb)]⟩
 | false =>
  rw [← hi, hb, cond_false, cond_false] at h2
  have w : ∀ {s : Sw}, Jdr s = true → s.inc = false → s.why.toList = [] := fun h hb => by
   simp only [Jdr, Bool.and_eq_true, Jn7] at h
   obtain ⟨⟨h1, h2⟩, _, h3⟩ := h
   rw [hb] at h3
   simp only [cond_false, Bool.and_eq_true, decide_eq_true_eq] at h3
   exact JcL h3.1
  have e1 := c1 hb
  have e2 := d1 (hi ▸ hb)
  have := Jpo (by omega) (by omega) h2
  exact ⟨by rw [w hs hb, w ht (hi ▸ hb)], by omega⟩
theorem JoJ (l : List (List UInt8)) : (l.map (JaA [116, 104, 101, 110])).map (List.drop 7) = l := by
 rw [List.map_map]
 have : (List.drop 7 ∘ JaA [116, 104, 101, 110]) = id := by funext z; rfl
 rw [this, List.map_id]
theorem Jpp {s t : Sw} (hs : Jdr s = true) (ht : Jdr t = true) (hf : s.facts = t.facts) (h : Jdx s = Jdx t) :
  s.inc = t.inc ∧ s.why.toList = t.why.toList ∧ s.code = t.code ∧ s.out.toList = t.out.toList ∧ s.err.toList = t.err.toList ∧ eqT s.tree t.tree := by
 simp only [Jdx, List.cons.injEq] at h
 obtain ⟨h1, h2⟩ := h
 have hc : JcO s = JcO t := by unfold JcO; rw [hf]
 rw [hc, List.append_assoc, List.append_assoc] at h2
 have h2 := List.append_cancel_left h2
 have hn : ∀ (l : List (List UInt8)), ∀ y ∈ l.map (JaA [116, 104, 101, 110]), ¬ y[2]? ≠ some 116 := fun l y hy => by
  obtain ⟨z, _, rfl⟩ := List.mem_map.1 hy
  simp [JaA]
 obtain ⟨h3, h4⟩ := JgP (hn _) (hn _) (JhG s) (JhG t) h2
 have h5 := congrArg (List.map (List.drop 7)) h3
 rw [JoJ, JoJ] at h5
 obtain ⟨i1, i2, i3⟩ := JnM hs ht h1
 obtain ⟨o1, o2⟩ := JnL h4
 obtain ⟨m1, m2, _, _⟩ := JbB hs
 obtain ⟨n1, n2, _, _⟩ := JbB ht
 rw [← hf] at n2 h5
 exact ⟨i1, i2, i3, o1, o2, (JjE m1 s.tree t.tree [] [] m2 n2 (by simp) (by simp) h5).2⟩
theorem JJ (a : Int) (k : IntKind) {kk : Bool} {T : TypeId} : Jf Tryz.prog kk .neq T (.int k a) (.int k a) = some (.bool false) := by simp [Jf]
theorem uN1 : QO Tryz.prog (fun l => Op.unary .not (l.getD 0 undef)) [.bool true] = some (.bool false) := by kernel_rfl
variable [Memo] [NY]
def JnN [Memo] (gl : Gl) (t : Tw) : Prop := ∀ (st : St) (u : Tw), u.ok → u.small → u.nodes ≤ 1000 → eqT t u → Says Tryz.prog gl 16 [.agg t.cells, .agg u.cells] st fun v st' => v = .bool true ∧ Keep st st'
set_option maxHeartbeats 8000000 in
set_option maxRecDepth 100000 in
theorem JkH (gl : Gl) (st : St) (ref : Int) (kind : Nat) (text text' : S) (base : Int) (nv nv' : V) (names names' : List S) (kv kv' : V) (kids kids' : List Tw) (hT : (Tw.mk ref kind text base nv names kv kids).ok) (hT' : (Tw.mk ref kind text' base nv' names' kv' kids').ok) (htx : text.toList = text'.toList) (hn : Row sC nv names) (hn' : Row sC nv' names') (htl : tl names = tl names') (hnl : names.length ≤ 200) (hkv : Row Tw.cells kv kids) (hkv' : Row Tw.cells kv' kids') (hlen : kids.length = kids'.length) (hkl : kids.length ≤ 200) (hks : ∀ t ∈ kids, t.ok ∧ t.small) (hks' : ∀ t ∈ kids', t.ok ∧ t.small) (hnd : QC kids ≤ 1000) (hnd' : QC kids' ≤ 1000) (heq : ∀ i (h : i < kids.length) (h' : i < kids'.length), eqT kids[i] kids'[i]) (ih : ∀ t ∈ kids, JnN gl t) :
  Says Tryz.prog gl 16 [.agg (Tw.mk ref kind text base nv names kv kids).cells, .agg (Tw.mk ref kind text' base nv' names' kv' kids').cells] st (fun v st' => v = .bool true ∧ Keep st st') := by
 refine QD (NY.no _ rfl rfl rfl _ _) Tryz.func16 rfl (by kernel_rfl) fun R hR K gr gn => ?_
 generalize hfr : JH gl [.agg (Tw.mk ref kind text base nv names kv kids).cells, .agg (Tw.mk ref kind text' base nv' names' kv' kids').cells] = fr
 have hF : Fs gl [(0, .agg (Tw.mk ref kind text base nv names kv kids).cells), (1, .agg (Tw.mk ref kind text' base nv' names' kv' kids').cells)] fr := by subst hfr; simp [Fs]
 simp only [Fs] at hF
 clear hfr
 have ho := Tw.ones hT
 have ho' := Tw.ones hT'
 have kq0 := Qz st (Tw.mk ref kind text base nv names kv kids).cells 26
 have hb := Jaa st (Tw.mk ref kind text base nv names kv kids).cells 26
 have hB0 := TwBox.new (st := st) (s := Tw.mk ref kind text base nv names kv kids)
 have cq := Jdi st (Tw.mk ref kind text base nv names kv kids).cells 26
 generalize Jao st (Tw.mk ref kind text base nv names kv kids).cells 26 = q0 at kq0 hb hB0 cq
 have kq1 := Qz q0 (Tw.mk ref kind text' base nv' names' kv' kids').cells 26
 have hb' := Jaa q0 (Tw.mk ref kind text' base nv' names' kv' kids').cells 26
 have hB1 := TwBox.new (st := q0) (s := Tw.mk ref kind text' base nv' names' kv' kids')
 have hB := hB0.keep kq1
 rw [cq] at hB1
 generalize Jao q0 (Tw.mk ref kind text' base nv' names' kv' kids').cells 26 = q at kq1 hb' hB1 hB
 rw [cq] at hb'
 have kq := kq0.trans kq1
 have l := hB.ld
 have m := hB1.ld
 obtain ⟨l0, l1, l2, l3, l4, l5, _⟩ := l
 obtain ⟨m0, m1, m2, m3, m4, m5, _⟩ := m
 have hts : text.same text' = true := by rw [S.same_eq, htx]; simp
 have lk := hkv.len Tryz.underlying24
 have lk' := hkv'.len Tryz.underlying24
 rw [← hlen] at lk'
 obtain ⟨v, s1, hc, rfl, hk1⟩ := Jiy gl q nv nv' names names' (hn.vw q) (hn'.vw q) (by omega)
 have hc := Jp (P := Tryz.prog) (ih := ihCall (W Tryz.prog)) (gl := gl) (args := [nv, nv']) (st := q) (show JN Tryz.prog 11 = true by kernel_rfl) ▸ J1 hc
 rw [JfU htl] at hc
 refine Ks_ (Ka_ (gs := [none, none, none]) fun K1 gK => ?_)
 simp (disch := omega) [hF, Ja, ho, ho', hb, cq, hb']
 refine gK _ _ (Ks_ (Ks_ (Ka_ (gs := [none, none, none, none, none, none, some (some 11, false), some (some 11, false), some (some 11, false), some (some 11, false), some (some 11, false), none, none, some (some 18, false), some (some 18, false), some (some 18, false), some (some 18, false), some (some 18, false), none, none, some (some 25, false), some (some 25, false), some (some 25, false), some (some 25, false), some (some 25, false), none, none, some (some 32, false), some (some 32, false), some (some 32, false), some (some 32, false), some (some 32, false), some (some 32, false), some (some 32, false), none, none, some (some 41, false), some (some 41, false), some (some 41, false), some (some 41, false), some (some 41, false), some (some 41, false), none]) fun K1 gK => ?_)))
 refine OkG.cutK 12 (fun fr st' => Fs gl [(2, .ptr st.ctr 0), (3, .ptr (st.ctr + 1) 0), (17, .bool false)] fr ∧ q = st') (by kernel_rfl) ?_ ?_
 ·as_aux_lemma =>
  intro Kc gKc
  simp only [List.take]
  simp (disch := omega) [gT0, gT1, l0, l1, m0, m1, JJ]
  exact gKc _ _ ⟨by simp [Fs, hF], rfl⟩
 ·as_aux_lemma =>
  clear hF
  rintro fr st' ⟨hF, rfl⟩
  simp only [Fs] at hF
  simp only [List.drop]
  refine OkG.cutK 7 (fun fr st' => Fs gl [(2, .ptr st.ctr 0), (3, .ptr (st.ctr + 1) 0), (24, .bool false)] fr ∧ q = st') (by kernel_rfl) ?_ ?_
  ·as_aux_lemma =>
   intro Kc gKc
   simp only [List.take]
   simp (disch := omega) [hF, gT2, l2, m2, hts]
   exact gKc _ _ ⟨by simp [Fs, hF], rfl⟩
  ·as_aux_lemma =>
   clear hF
   rintro fr st' ⟨hF, rfl⟩
   simp only [Fs] at hF
   simp only [List.drop]
   refine OkG.cutK 7 (fun fr st' => Fs gl [(2, .ptr st.ctr 0), (3, .ptr (st.ctr + 1) 0), (31, .bool false)] fr ∧ q = st') (by kernel_rfl) ?_ ?_
   ·as_aux_lemma =>
    intro Kc gKc
    simp only [List.take]
    simp (disch := omega) [hF, gT3, l3, m3, JJ]
    exact gKc _ _ ⟨by simp [Fs, hF], rfl⟩
   ·as_aux_lemma =>
    clear hF
    rintro fr st' ⟨hF, rfl⟩
    simp only [Fs] at hF
    simp only [List.drop]
    refine OkG.cutK 9 (fun fr st' => Fs gl [(2, .ptr st.ctr 0), (3, .ptr (st.ctr + 1) 0), (40, .bool false)] fr ∧ q = st') (by kernel_rfl) ?_ ?_
    ·as_aux_lemma =>
     intro Kc gKc
     simp only [List.take]
     simp (disch := omega) [hF, gT5, l5, m5, lk, lk']
     exact gKc _ _ ⟨by simp [Fs, hF], rfl⟩
    ·as_aux_lemma =>
     clear hF
     rintro fr st' ⟨hF, rfl⟩
     simp only [Fs] at hF
     simp only [List.drop]
     simp (disch := omega) [hF, gT4, l4, m4, hc]
     refine gK _ _ (Kf_ (by simp (disch := omega) []) (Kk_ (Ks_ (Ks_ (Ka_ (gs := [none]) fun K1 gK => ?_)))))
     simp (disch := omega) []
     refine gK _ _ ?_
     refine Kl_ (kids.length) (fun i fr st' => Fs gl [(2, .ptr st.ctr 0), (3, .ptr (st.ctr + 1) 0), (5, .int .i64 (i : Int))] fr ∧ i ≤ kids.length ∧ Keep q st') (0) (fun fr st' => Fs gl [] fr ∧ Keep q st') ?_ ?_ ?_ ?_
     ·exact ⟨by simp [Fs, hF], Nat.zero_le _, hk1⟩
     ·rintro i fr st' ⟨_, hi, hk⟩
      omega
     ·as_aux_lemma =>
      clear hF
      rintro i fr st' ⟨hF, hi, hk⟩ K1 gk1 gx1 go1
      simp only [Fs] at hF
      have n5 := (hB.keep hk).ld.l5
      have o5 := (hB1.keep hk).ld.l5
      refine Ks_ (Ks_ (Ka_ (gs := [none, none, none, none, none]) fun K1 gK => ?_))
      simp (disch := omega) [hF, gT5, lk, n5]
      refine gK _ _ ?_
      by_cases hlt : i < kids.length
      ·
       refine Kt_ (by simp (disch := omega) [hlt]) ?_
       have hlt' : i < kids'.length := by omega
       have hix := hkv.ix (fun t _ => t.len6) Tryz.underlying24 JhJ (k := .i64) (a := (i : Int)) (by omega) (by omega)
       have hld := fun st => Jmj (st := st) hlt
       have hix' := hkv'.ix (fun t _ => t.len6) Tryz.underlying24 JhJ (k := .i64) (a := (i : Int)) (by omega) (by omega)
       have hld' := fun st => Jmj (st := st) hlt'
       obtain ⟨qt, hqt⟩ : ∃ q : St, ({ ctr := st'.ctr + 12, box := st'.box } : St) = q := ⟨_, rfl⟩
       have kt : Keep st' qt := by rw [← hqt]; exact Jcg _ _
       have n5t := (hB.keep (hk.trans kt)).ld.l5
       have o5t := (hB1.keep (hk.trans kt)).ld.l5
       obtain ⟨h1, h2⟩ := hks' _ (List.getElem_mem hlt')
       obtain ⟨g1, g2⟩ := hks _ (List.getElem_mem hlt)
       have d1 := Jca (List.getElem_mem hlt)
       have d2 := Jca (List.getElem_mem hlt')
       obtain ⟨v, s2, hc2, rfl, hk2⟩ := Says.use (ih _ (List.getElem_mem hlt) qt _ h1 h2 (by omega) (heq i hlt hlt'))
       have vk1 : veq 1000000000 kv kv = true := QA _ (by have := Jj6 hkv fun t h => Jgb (hks t h).1 (hks t h).2; omega)
       have vk2 : veq 1000000000 kv' kv' = true := QA _ (by have := Jj6 hkv' fun t h => Jgb (hks' t h).1 (hks' t h).2; omega)
       have vk3 : veq 1000000000 (.agg kids[i].cells) (.agg kids[i].cells) = true := QA _ (by have := Jgb g1 g2; show Jaj kids[i].cells + 1 < _; omega)
       have vk4 : veq 1000000000 (.agg kids'[i].cells) (.agg kids'[i].cells) = true := QA _ (by have := Jgb h1 h2; show Jaj kids'[i].cells + 1 < _; omega)
       refine Kk_ (Ks_ ?_)
       refine Kb_ fun K2 gn2 gx2 go2 => ?_
       refine Ks_ (Kh_ (b := [0, 1, 0, 7, 15, 0, 32, 0, 224, 480, 1023, 2047]) (gs := [none, none, none, none, none, none, none, none, none, none, none, none]) fun K1 gK => ?_)
       simp (disch := omega) [hF, gT5, hlt, n5t, o5t, hix, hld, hix', hld', hqt, hc2, vk1, vk2, vk3, vk4]
       refine gK _ _ (Kf_ (by simp (disch := omega) []) (Kk_ (gn2 _ _ (Ka_ (gs := [none, none, none]) fun K1 gK => ?_))))
       simp (disch := omega) [hF]
       refine gK _ _ ?_
       refine gk1 (i + 1) _ _ (by omega) ⟨by simp [Fs, hF], by omega, hk.trans (kt.trans hk2)⟩
      ·
       refine Kf_ (by simp (disch := omega) [hlt]) ?_
       exact Kx_ (gx1 _ _ ⟨by simp [Fs, hF, hlt], hk⟩)
     ·as_aux_lemma =>
      clear hF
      rintro fr st' ⟨hF, hk⟩
      simp only [Fs] at hF
      refine Ks_ (Ka_ (gs := [none]) fun K1 gK => ?_)
      simp (disch := omega) []
      refine gK _ _ (Kq_ (gr _ _ ?_))
      simp [JM, Tryz.f16, hF]
      refine hR _ _ ?_
      exact ⟨rfl, kq.trans hk⟩
theorem JnO (gl : Gl) {t : Tw} (hok : t.ok) : t.small → t.nodes ≤ 1000 → JnN gl t := by
 induction hok with
 | mk ref kind text base nv names kv kids hk hn hkv hks ih =>
  intro hsm hnd st u hu hus hnd' he
  cases u with
  | mk ref' kind' text' base' nv' names' kv' kids' =>
   obtain ⟨rfl, rfl, e3, rfl, e5, e6⟩ := he
   obtain ⟨e7, e8⟩ := Jln e6
   have hu0 := hu
   simp only [Tw.nodes] at hnd hnd'
   cases hu with
   | mk _ _ _ _ _ _ _ _ hk' hn' hkv' hks' =>
   cases hus with
   | mk _ _ _ _ _ _ _ _ ht' hnl' hnt' hkl' hksm' =>
   cases hsm with
   | mk _ _ _ _ _ _ _ _ ht hnl hnt hkl hksm =>
   exact JkH gl st ref kind text text' base nv nv' names names' kv kv' kids kids' (.mk _ _ _ _ _ _ _ _ hk hn hkv hks) hu0 e3 hn hn' e5 hnl hkv hkv' e7 hkl (fun t h => ⟨hks t h, hksm t h⟩) (fun t h => ⟨hks' t h, hksm' t h⟩) (by omega) (by omega) e8 fun t h => ih t h (hksm t h) (by have := Jca h; omega)
omit [Memo] [NY] in
theorem QT (a : Int) (k : IntKind) {kk : Bool} {T : TypeId} : Jf Tryz.prog kk .eql T (.int k a) (.int k a) = some (.bool true) := by simp [Jf]
omit [Memo] [NY] in
theorem Jdv {kk : Bool} {T : TypeId} : Jf Tryz.prog kk .neq T (.int .i64 4) (.int .i64 0) = some (.bool true) := by simp [Jf]
omit [Memo] [NY] in
theorem Jdw {kk : Bool} {T : TypeId} : Jf Tryz.prog kk .eql T (.int .i64 4) (.int .i64 0) = some (.bool false) := by simp [Jf]
omit [Memo] [NY] in
theorem nb (b : Bool) : QO Tryz.prog (fun l => Op.unary .not (l.getD 0 undef)) [.bool b] = some (.bool !b) := by cases b <;> kernel_rfl
variable [NZ] [NO] [NA]
set_option maxHeartbeats 8000000 in
set_option maxRecDepth 100000 in
theorem law4 (gl : Gl) {aL : List V} (hh : Hits gl aL) (hw0 : gl.get 0 = some classV) (hw1 : gl.get 1 = some kindsV) (hw2 : gl.get 2 = some wordsV) (st : St) (s t0 : Sw) (hok : s.ok) (hok0 : t0.ok) (hsz : vtots s.cells ≤ 10000000) (hsz0 : vtots t0.cells ≤ 10000000) :
  Says Tryz.prog gl 4 [.agg s.cells, .agg t0.cells] st (fun v _st' => v = .bool true) := by
 refine QD (NY.no _ rfl rfl rfl _ _) Tryz.func4 rfl (by kernel_rfl) fun R hR K gr gn => ?_
 generalize hfr : JH gl [.agg s.cells, .agg t0.cells] = fr
 have hF : Fs gl [(0, .agg s.cells), (1, .agg t0.cells)] fr := by subst hfr; simp [Fs]
 simp only [Fs] at hF
 clear hfr
 have ho := Sw.ones hok
 have ho0 := Sw.ones hok0
 have kq0 := Qz st s.cells 28
 have hb := Jaa st s.cells 28
 have hS0 := SwBox.new (st := st) (s := s)
 have cq := Jdi st s.cells 28
 generalize Jao st s.cells 28 = q0 at kq0 hb hS0 cq
 have kq1 := Qz q0 t0.cells 28
 have hb' := Jaa q0 t0.cells 28
 have hT0 := SwBox.new (st := q0) (s := t0)
 have cq1 := Jdi q0 t0.cells 28
 have hS1 := hS0.keep kq1
 rw [cq] at hT0
 generalize Jao q0 t0.cells 28 = q1 at kq1 hb' hT0 hS1 cq1
 rw [cq] at hb' cq1
 have l0 := hS1.ld.l0
 obtain ⟨t, ht⟩ : ∃ t : Sw, t = { t0 with fv := s.fv, facts := s.facts } := ⟨_, rfl⟩
 have hokt : t.ok := by rw [ht]; exact ⟨hok.fv, hok.facts, hok0.tree⟩
 have hft : s.facts = t.facts := by rw [ht]
 have hcell : t0.cells.set 0 s.fv = t.cells := by rw [ht]; rfl
 have hszt : vtots t.cells ≤ 100000000 := by
  rw [ht]
  simp only [Sw.cells, vtots, JaP, Ja0] at hsz hsz0 ⊢
  omega
 have hsim : JkB s.fv = true := by have := hok.fv; revert this; generalize s.fv = x; generalize s.facts = fl; intro h; cases h <;> rfl
 have hw := JaM (P := Tryz.prog) (t := 22) (off := 0) (v := s.fv) z22 hT0.b (by rw [t0.len12]; omega) hsim
 rw [hcell] at hw
 obtain ⟨q, hq⟩ : ∃ q : St, q = { ctr := q1.ctr, box := q1.box.put (st.ctr + 1) (.cells t.cells 28 true (some 0)) } := ⟨_, rfl⟩
 rw [← hq] at hw
 have hT : SwBox q (st.ctr + 1) t := ⟨by rw [hq]; simp [Tr.get_put], by rw [hq]; show st.ctr + 1 < q1.ctr; omega⟩
 have hS : SwBox q st.ctr s := ⟨by rw [hq]; simp only [Tr.get_put]; rw [if_neg (by omega)]; exact hS1.b, by rw [hq]; show st.ctr < q1.ctr; omega⟩
 clear hq
 have l := hS.ld.l
 obtain ⟨v, s1, hc1, ⟨b1, rfl, hsm1⟩, hk1⟩ := Says.use (Jjd gl q s hok (by omega))
 have m := (hT.keep hk1).ld.l
 obtain ⟨v, s2, hc2, ⟨b2, rfl, hsm2⟩, hk2⟩ := Says.use (Jjd gl s1 t hokt hszt)
 obtain ⟨v, s3, hc3, rfl, hg3⟩ := Says.use (Jiu gl s2)
 rw [show s3 = s2 from hg3] at hc3
 obtain ⟨v, s4, hc4, rfl, hg4⟩ := Says.use (Jiu gl s1)
 rw [show s4 = s1 from hg4] at hc4
 clear hg3 hg4
 refine Ks_ (Ka_ (gs := [none, none, none]) fun K1 gK => ?_)
 simp (disch := omega) [hF, Ja, ho, ho0, hb, cq, hb']
 refine gK _ _ (Ks_ (Ka_ (gs := [none, none, none, none]) fun K1 gK => ?_))
 simp (disch := omega) [gS0, l0, hw]
 refine gK _ _ ?_
 cases b1 with
 | true =>
  refine Ks_ (Ks_ (Ka_ (gs := [none, none, none, some (some 14, false), some (some 14, false), none, none, some (some 18, false), some (some 18, false), none]) fun K1 gK => ?_))
  simp (disch := omega) [hF, l, hc1]
  refine gK _ _ (Kt_ (by simp (disch := omega) []) (Ks_ (Ka_ (gs := [none, none]) fun K1 gK => ?_)))
  simp (disch := omega) [hF, hc4]
  refine gK _ _ (Kq_ (gr _ _ ?_))
  simp [JM, Tryz.f4, hF]
  refine hR _ _ ?_
  rfl
 | false =>
  cases b2 with
  | true =>
   refine Ks_ (Ks_ (Ka_ (gs := [none, none, none, some (some 14, false), some (some 14, false), none, none, some (some 18, false), some (some 18, false), none]) fun K1 gK => ?_))
   simp (disch := omega) [hF, l, m, hc1, hc2]
   refine gK _ _ (Kt_ (by simp (disch := omega) []) (Ks_ (Ka_ (gs := [none, none]) fun K1 gK => ?_)))
   simp (disch := omega) [hF, hc3]
   refine gK _ _ (Kq_ (gr _ _ ?_))
   simp [JM, Tryz.f4, hF]
   refine hR _ _ ?_
   rfl
  | false =>
   have hs := hsm1 rfl
   have hst := hsm2 rfl
   refine Ks_ (Ks_ (Ka_ (gs := [none, none, none, some (some 14, false), some (some 14, false), none, none, some (some 18, false), some (some 18, false), none]) fun K1 gK => ?_))
   simp (disch := omega) [hF, l, m, hc1, hc2, hc3]
   refine gK _ _ (Kf_ (by simp (disch := omega) []) ?_)
   have hk12 := hk1.trans hk2
   have l := (hS.keep hk12).ld.l
   obtain ⟨v, u1, hd1, ⟨y1, t1, rfl, ht1, hy1⟩, hg1⟩ := Says.use (Jmh gl hh hw0 hw1 hw2 s2 s hok hs)
   have m := (hT.keep (hk12.trans hg1)).ld.l
   obtain ⟨v, u2, hd2, ⟨y2, t2, rfl, ht2, hy2⟩, hg2⟩ := Says.use (Jmh gl hh hw0 hw1 hw2 u1 t hokt hst)
   obtain ⟨M, hM⟩ : ∃ b, Jdr s = b := ⟨_, rfl⟩
   obtain ⟨N, hN⟩ : ∃ b, Jdr t = b := ⟨_, rfl⟩
   have hlen1 := Jl4 hs hok rfl ht1
   rw [hM] at hd1 ht1
   rw [hN] at hd2 ht2
   obtain ⟨v, u3, hd3, rfl, hg3⟩ := Jiy gl u2 y1 y2 t1 t2 (hy1.keep hg2).vw hy2.vw (by omega)
   have hd3 := Jp (P := Tryz.prog) (ih := ihCall (W Tryz.prog)) (gl := gl) (args := [y1, y2]) (st := u2) (show JN Tryz.prog 11 = true by kernel_rfl) ▸ J1 hd3
   obtain ⟨B, hB⟩ : ∃ b, Jcb S.same t1 t2 = b := ⟨_, rfl⟩
   rw [hB] at hd3
   have hk3 := hk12.trans (hg1.trans hg2)
   refine Kk_ (Ks_ (Ka_ (gs := [none, none, none, none, none, none, none]) fun K1 gK => ?_))
   simp (disch := omega) [hF, l, hd1]
   refine gK _ _ (Ks_ (Ka_ (gs := [none, none, none, none, none, none, none]) fun K1 gK => ?_))
   simp (disch := omega) [hF, m, hd2]
   refine gK _ _ ?_
   cases M with
   | true =>
    cases N with
    | true =>
     cases B with
     | true =>
      have hsh : Jdx s = Jdx t := by
       have h1 := JhD.1 hB
       exact (ht1.symm.trans h1).trans ht2
      obtain ⟨e1, e2, e3, e4, e5, e6⟩ := Jpp hM hN hft hsh
      refine Ks_ (Ks_ (Ka_ (gs := [none, none, none, some (some 35, false), some (some 35, false), none, none, some (some 39, false), some (some 39, false), some (some 39, false), some (some 39, false), none]) fun K1 gK => ?_))
      simp (disch := omega) [hF, hd3, JJ]
      refine gK _ _ (Kf_ (by simp (disch := omega) []) ?_)
      have hk4 := hk3.trans hg3
      obtain ⟨l0, l1, l2, l3, l4, l5, l6, _⟩ := (hS.keep hk4).ld
      obtain ⟨m0, m1, m2, m3, m4, m5, m6, _⟩ := (hT.keep hk4).ld
      have f1 : ∀ kk, Jf Tryz.prog kk .eql 4 (.bool s.inc) (.bool t.inc) = some (.bool true) := fun kk => by rw [JnW, e1]; simp
      have f2 : s.why.same t.why = true := by rw [S.same_eq, e2]; simp
      have f3 : ∀ kk, Jf Tryz.prog kk .eql 3 (.int .i64 s.code) (.int .i64 t.code) = some (.bool true) := fun kk => by rw [e3]; simp [Jf]
      have f4 : s.out.same t.out = true := by rw [S.same_eq, e4]; simp
      have f5 : s.err.same t.err = true := by rw [S.same_eq, e5]; simp
      have hn1 := hs.nodes
      have hn2 := hst.nodes
      obtain ⟨v, w1, hc7, rfl, hg7⟩ := Says.use (JnO gl hok.tree hs.tree (by omega) u3 t.tree hokt.tree hst.tree (by omega) e6)
      obtain ⟨q9, rfl⟩ : ∃ q9, q9 = u3 := ⟨_, rfl⟩
      refine Kk_ (Ks_ (Ka_ (gs := [none, none, none, none, none, none, some (some 62, true), some (some 62, true), some (some 62, true), some (some 62, true), some (some 62, true), none, none, some (some 69, true), some (some 69, true), some (some 69, true), some (some 69, true), some (some 69, true), none, none, some (some 76, true), some (some 76, true), some (some 76, true), some (some 76, true), some (some 76, true), none, none, some (some 83, true), some (some 83, true), some (some 83, true), some (some 83, true), some (some 83, true), none, none, some (some 90, true), some (some 90, true), some (some 90, true), some (some 90, true), some (some 90, true), none, none]) fun K1 gK => ?_))
      refine OkG.cutK 12 (fun fr st' => Fs gl [(2, .ptr st.ctr 0), (3, .ptr (st.ctr + 1) 0), (68, .bool true)] fr ∧ q9 = st') (by kernel_rfl) ?_ ?_
      ·as_aux_lemma =>
       intro Kc gKc
       simp only [List.take]
       simp (disch := omega) [gS2, gS3, l2, l3, m2, m3, f1, f2]
       exact gKc _ _ ⟨by simp [Fs, hF], rfl⟩
      ·as_aux_lemma =>
       clear hF
       rintro fr st' ⟨hF, rfl⟩
       simp only [Fs] at hF
       simp only [List.drop]
       refine OkG.cutK 7 (fun fr st' => Fs gl [(2, .ptr st.ctr 0), (3, .ptr (st.ctr + 1) 0), (75, .bool true)] fr ∧ q9 = st') (by kernel_rfl) ?_ ?_
       ·as_aux_lemma =>
        intro Kc gKc
        simp only [List.take]
        simp (disch := omega) [hF, gS4, l4, m4, f3]
        exact gKc _ _ ⟨by simp [Fs, hF], rfl⟩
       ·as_aux_lemma =>
        clear hF
        rintro fr st' ⟨hF, rfl⟩
        simp only [Fs] at hF
        simp only [List.drop]
        refine OkG.cutK 7 (fun fr st' => Fs gl [(2, .ptr st.ctr 0), (3, .ptr (st.ctr + 1) 0), (82, .bool true)] fr ∧ q9 = st') (by kernel_rfl) ?_ ?_
        ·as_aux_lemma =>
         intro Kc gKc
         simp only [List.take]
         simp (disch := omega) [hF, gS5, l5, m5, f4]
         exact gKc _ _ ⟨by simp [Fs, hF], rfl⟩
        ·as_aux_lemma =>
         clear hF
         rintro fr st' ⟨hF, rfl⟩
         simp only [Fs] at hF
         simp only [List.drop]
         refine OkG.cutK 7 (fun fr st' => Fs gl [(2, .ptr st.ctr 0), (3, .ptr (st.ctr + 1) 0), (89, .bool true)] fr ∧ q9 = st') (by kernel_rfl) ?_ ?_
         ·as_aux_lemma =>
          intro Kc gKc
          simp only [List.take]
          simp (disch := omega) [hF, gS6, l6, m6, f5]
          exact gKc _ _ ⟨by simp [Fs, hF], rfl⟩
         ·as_aux_lemma =>
          clear hF
          rintro fr st' ⟨hF, rfl⟩
          simp only [Fs] at hF
          simp only [List.drop]
          simp (disch := omega) [hF, gS1, l1, m1, hc7]
          refine gK _ _ (Kq_ (gr _ _ ?_))
          simp [JM, Tryz.f4, hF]
          refine hR _ _ ?_
          rfl
     | false =>
      obtain ⟨w, rfl⟩ : ∃ w, w = u3 := ⟨_, rfl⟩
      have p := (hS.keep (hk3.trans hg3)).ld.l
      obtain ⟨v, w1, hc5, rfl, hg5⟩ := Says.use (Jgc gl hh w s hok hs)
      have pt := (hT.keep ((hk3.trans hg3).trans hg5)).ld.l
      obtain ⟨v, w2, hc6, rfl, hg6⟩ := Says.use (Jgc gl hh w1 t hokt hst)
      rw [hM] at hc5
      rw [hN] at hc6
      have b4 : ∀ (x : Bool) kk, Jf Tryz.prog kk .eql 4 (.bool x) (.bool x) = some (.bool true) := fun x kk => by rw [JnW]; simp
      refine Ks_ (Ks_ (Ka_ (gs := [none, none, none, some (some 35, false), some (some 35, false), none, none, some (some 39, false), some (some 39, false), some (some 39, false), some (some 39, false), none]) fun K1 gK => ?_))
      simp (disch := omega) [hF, hd3, JJ]
      refine gK _ _ (Kt_ (by simp (disch := omega) []) (Ks_ (Ka_ (gs := [none, none, none, none, none, none, some (some 50, true), some (some 50, true), some (some 50, true), some (some 50, true), some (some 50, true), none, none]) fun K1 gK => ?_)))
      simp (disch := omega) [hF, QT, p, pt, hc5, hc6, b4]
      refine gK _ _ (Kq_ (gr _ _ ?_))
      simp [JM, Tryz.f4, hF]
      refine hR _ _ ?_
      rfl
    | false =>
     obtain ⟨w, rfl⟩ : ∃ w, w = u2 := ⟨_, rfl⟩
     have p := (hS.keep hk3).ld.l
     obtain ⟨v, w1, hc5, rfl, hg5⟩ := Says.use (Jgc gl hh w s hok hs)
     have pt := (hT.keep ((hk3).trans hg5)).ld.l
     obtain ⟨v, w2, hc6, rfl, hg6⟩ := Says.use (Jgc gl hh w1 t hokt hst)
     rw [hM] at hc5
     rw [hN] at hc6
     have b4 : ∀ (x : Bool) kk, Jf Tryz.prog kk .eql 4 (.bool x) (.bool x) = some (.bool true) := fun x kk => by rw [JnW]; simp
     refine Ks_ (Ks_ (Ka_ (gs := [none, none, none, some (some 35, false), some (some 35, false), none, none, some (some 39, false), some (some 39, false), some (some 39, false), some (some 39, false), none]) fun K1 gK => ?_))
     simp (disch := omega) [JJ, Jdv]
     refine gK _ _ (Kt_ (by simp (disch := omega) []) (Ks_ (Ka_ (gs := [none, none, none, none, none, none, some (some 50, true), some (some 50, true), some (some 50, true), some (some 50, true), some (some 50, true), none, none]) fun K1 gK => ?_)))
     simp (disch := omega) [hF, QT, Jdw, p, pt, hc5, hc6, b4]
     refine gK _ _ (Kq_ (gr _ _ ?_))
     simp [JM, Tryz.f4, hF]
     refine hR _ _ ?_
     rfl
   | false =>
    obtain ⟨w, rfl⟩ : ∃ w, w = u2 := ⟨_, rfl⟩
    have p := (hS.keep hk3).ld.l
    obtain ⟨v, w1, hc5, rfl, hg5⟩ := Says.use (Jgc gl hh w s hok hs)
    have pt := (hT.keep ((hk3).trans hg5)).ld.l
    obtain ⟨v, w2, hc6, rfl, hg6⟩ := Says.use (Jgc gl hh w1 t hokt hst)
    rw [hM] at hc5
    rw [hN] at hc6
    have b4 : ∀ (x : Bool) kk, Jf Tryz.prog kk .eql 4 (.bool x) (.bool x) = some (.bool true) := fun x kk => by rw [JnW]; simp
    refine Ks_ (Ks_ (Ka_ (gs := [none, none, none, some (some 35, false), some (some 35, false), none, none, some (some 39, false), some (some 39, false), some (some 39, false), some (some 39, false), none]) fun K1 gK => ?_))
    simp (disch := omega) [Jdv]
    refine gK _ _ (Kt_ (by simp (disch := omega) []) (Ks_ (Ka_ (gs := [none, none, none, none, none, none, some (some 50, true), some (some 50, true), some (some 50, true), some (some 50, true), some (some 50, true), none, none]) fun K1 gK => ?_)))
    simp (disch := omega) [hF, Jdw, p, pt, hc5, hc6, b4]
    refine gK _ _ (Kq_ (gr _ _ ?_))
    simp [JM, Tryz.f4, hF]
    refine hR _ _ ?_
    cases N <;> rfl
end Go.Vm
