/- Lists of nodes: a list tells the node, no line is there twice (plain). -/
import Derived.Test.YtphinjijaglokaaGreatDoorSzL
import Derived.Test.YtphinjijaglokaaGreatDoorSpX
import Derived.Test.YtphinjijaglokaaGreatDoorSzI
import Derived.Test.YtphinjijaglokaaGreatDoorSzN
import Derived.Test.YtphinjijaglokaaGreatDoorSz2
import Derived.Test.YtphinjijaglokaaGreatDoorSzC
import Derived.Test.YtphinjijaglokaaGreatDoorSz7
namespace Go.Vm
open Go Go.Proofs Go.Pa
def Jcf (p : List S) : List UInt8 := JaF (esc (Jbs p))
def Jfw (kind : Nat) (text : S) : List UInt8 := cond (decide (kind = 1)) ([102, 32] ++ esc text.toList) (cond (decide (kind = 3)) ([108, 32] ++ esc text.toList) [100])
mutual
def JC : Nt → List S → List (List UInt8)
 | .mk kind text names kids, p => (Jcf p ++ 32 :: Jfw kind text) :: cond (decide (kind = 1) || decide (kind = 3)) [] (Qc kids names p)
def Qc : List Nt → List S → List S → List (List UInt8)
 | t :: ts, n :: ns, p => JC t (p ++ [n]) ++ Qc ts ns p
 | _, _, _ => []
end
theorem QN (ns p : List S) : Qc [] ns p = [] := by cases ns <;> rfl
mutual
theorem JeL : ∀ (t : Nt) (p : List S), (JC t p).length ≤ t.nodes
 | .mk kind text names kids, p => by
  have := JdV kids names p
  simp only [JC, Nt.nodes, List.length_cons]
  cases decide (kind = 1) <;> cases decide (kind = 3) <;> simp <;> omega
theorem JdV : ∀ (ts : List Nt) (ns p : List S), (Qc ts ns p).length ≤ Qr ts
 | [], ns, p => by rw [QN]; simp
 | t :: ts, [], p => by simp [Qc]
 | t :: ts, n :: ns, p => by
  have h1 := JeL t (p ++ [n])
  have h2 := JdV ts ns p
  simp only [Qc, List.length_append, Qr]; omega
end
theorem Jcg {kind : Nat} {text : S} {names : List S} {kids : List Nt} {p : List S} (h : kind = 1 ∨ kind = 3) : JC (.mk kind text names kids) p = [Jcf p ++ 32 :: Jfw kind text] := by
 rcases h with rfl | rfl <;> simp [JC]
theorem Jbi {text : S} {names : List S} {kids : List Nt} {p : List S} : JC (.mk 2 text names kids) p = (Jcf p ++ 32 :: [100]) :: Qc kids names p := by
 simp [JC, Jfw]
theorem Q9 {kind : Nat} {text : S} {names : List S} {kids : List Nt} (h : QA (.mk kind text names kids) = true) :
  ((kind = 1 ∨ kind = 3) ∧ names = [] ∧ kids = []) ∨ (kind = 2 ∧ text.n = 0 ∧ names.length = kids.length ∧ Q7 names = true ∧ ∀ t ∈ kids, QA t = true) := by
 by_cases h1 : kind = 1 ∨ kind = 3
 ·obtain ⟨a, b, _⟩ := Jib h h1
  exact .inl ⟨h1, a, b⟩
 ·exact .inr (JfM h (fun e => h1 (.inl e)) (fun e => h1 (.inr e)))
theorem JdW : ∀ (ts : List Nt) (ns p : List S), ts.length = ns.length → (∀ t ∈ ts, ∀ p, (JC t p).length = t.nodes) → (Qc ts ns p).length = Qr ts
 | [], ns, p, _, _ => by rw [QN]; rfl
 | t :: ts, [], p, h, _ => by simp at h
 | t :: ts, n :: ns, p, h, ih => by
  have h1 := ih t (by simp) (p ++ [n])
  have h2 := JdW ts ns p (by simpa using h) fun u hu => ih u (by simp [hu])
  simp only [Qc, List.length_append, Qr, h1, h2]
theorem Jif : ∀ t : Nt, QA t = true → ∀ p, (JC t p).length = t.nodes := Nt.ind fun kind text names kids ih hw p => by
 rcases Q9 hw with ⟨h, rfl, rfl⟩ | ⟨rfl, _, h2, _, h4⟩
 ·rw [Jcg h]; rfl
 ·rw [Jbi, List.length_cons, JdW kids names p h2.symm fun t ht => ih t ht (h4 t ht)]; rfl
def JeM (b : UInt8) : List UInt8 := if b = 10 then [92, 110] else if b = 92 then [92, 92] else if b = 32 then [92, 115] else [b]
theorem JbY (b : UInt8) : (b = 10 ∧ JeM b = [92, 110]) ∨ (b = 92 ∧ JeM b = [92, 92]) ∨ (b = 32 ∧ JeM b = [92, 115]) ∨ (b ≠ 10 ∧ b ≠ 92 ∧ b ≠ 32 ∧ JeM b = [b]) := by
 unfold JeM
 by_cases h1 : b = 10
 ·exact .inl ⟨h1, by rw [if_pos h1]⟩
 ·by_cases h2 : b = 92
  ·exact .inr (.inl ⟨h2, by rw [if_neg h1, if_pos h2]⟩)
  ·by_cases h3 : b = 32
   ·exact .inr (.inr (.inl ⟨h3, by rw [if_neg h1, if_neg h2, if_pos h3]⟩))
   ·exact .inr (.inr (.inr ⟨h1, h2, h3, by rw [if_neg h1, if_neg h2, if_neg h3]⟩))
theorem Jgv : ∀ l : List UInt8, JaF (esc l) = l.flatMap JeM
 | [] => rfl
 | a :: l => by
  rw [Jcq, Jc9, Jgv l, List.flatMap_cons]
  congr 1
  unfold JbE JeM
  by_cases h1 : a = 10
  ·rw [if_pos h1, if_pos h1]; rfl
  ·rw [if_neg h1, if_neg h1]
   by_cases h2 : a = 92
   ·rw [if_pos h2, if_pos h2]; rfl
   ·rw [if_neg h2, if_neg h2]
    simp [JaF]
theorem JfQ : ∀ (a b x y : List UInt8), a.flatMap JeM ++ 32 :: x = b.flatMap JeM ++ 32 :: y → a = b ∧ x = y
 | [], [], x, y, h => by simpa using h
 | [], c :: b, x, y, h => by
  exfalso
  rw [List.flatMap_cons, List.append_assoc, List.flatMap_nil, List.nil_append] at h
  rcases JbY c with ⟨_, e⟩ | ⟨_, e⟩ | ⟨_, e⟩ | ⟨_, _, n, e⟩ <;> rw [e] at h <;> simp at h
  exact n h.1.symm
 | c :: a, [], x, y, h => by
  exfalso
  rw [List.flatMap_cons, List.append_assoc, List.flatMap_nil, List.nil_append] at h
  rcases JbY c with ⟨_, e⟩ | ⟨_, e⟩ | ⟨_, e⟩ | ⟨_, _, n, e⟩ <;> rw [e] at h <;> simp at h
  exact n h.1
 | c :: a, d :: b, x, y, h => by
  rw [List.flatMap_cons, List.flatMap_cons, List.append_assoc, List.append_assoc] at h
  have key : c = d ∧ a.flatMap JeM ++ 32 :: x = b.flatMap JeM ++ 32 :: y := by
   rcases JbY c with ⟨c1, e⟩ | ⟨c1, e⟩ | ⟨c1, e⟩ | ⟨c1, c2, c3, e⟩ <;> rcases JbY d with ⟨d1, f⟩ | ⟨d1, f⟩ | ⟨d1, f⟩ | ⟨d1, d2, d3, f⟩ <;> rw [e, f] at h <;> simp only [List.cons_append, List.nil_append, List.cons.injEq] at h
   ·exact ⟨by rw [c1, d1], h.2.2⟩
   ·exact absurd h.2.1 (by decide)
   ·exact absurd h.2.1 (by decide)
   ·exact absurd h.1.symm d2
   ·exact absurd h.2.1 (by decide)
   ·exact ⟨by rw [c1, d1], h.2.2⟩
   ·exact absurd h.2.1 (by decide)
   ·exact absurd h.1.symm d2
   ·exact absurd h.2.1 (by decide)
   ·exact absurd h.2.1 (by decide)
   ·exact ⟨by rw [c1, d1], h.2.2⟩
   ·exact absurd h.1.symm d2
   ·exact absurd h.1 c2
   ·exact absurd h.1 c2
   ·exact absurd h.1 c2
   ·exact h
  obtain ⟨h1, h2⟩ := JfQ a b x y key.2
  exact ⟨by rw [key.1, h1], h2⟩
theorem Jc4 {p q : List S} {x y : List UInt8} (hp : ∀ s ∈ p, QV s) (hq : ∀ s ∈ q, QV s) (h : Jcf p ++ 32 :: x = Jcf q ++ 32 :: y) : tl p = tl q ∧ x = y := by
 unfold Jcf at h
 rw [Jgv, Jgv] at h
 obtain ⟨h1, h2⟩ := JfQ _ _ _ _ h
 exact ⟨JjT hp hq h1, h2⟩
theorem pathB_tq {p q : List S} (h : tl p = tl q) : Jbs p = Jbs q := by
 cases p with
 | nil => cases q with
  | nil => rfl
  | cons b q => simp at h
 | cons a p => cases q with
  | nil => simp at h
  | cons b q =>
   rw [JeE (by simp), JeE (by simp)]
   have e : ∀ l : List S, (l.flatMap fun s => (47 : UInt8) :: s.toList) = (tl l).flatMap fun s => 47 :: s := fun l => by
    induction l with
    | nil => rfl
    | cons a l ih =>
     show ((47 : UInt8) :: a.toList) ++ (l.flatMap fun s => (47 : UInt8) :: s.toList) = (47 :: a.toList) ++ ((tl l).flatMap fun s => 47 :: s)
     rw [ih]
   rw [e, e, h]
theorem JlI {p q : List S} (h : tl p = tl q) : Jcf p = Jcf q := by unfold Jcf; rw [pathB_tq h]
theorem Jan {l : List S} (h : Q7 l = true) : ∀ s ∈ l, QV s := by
 intro s hs
 obtain ⟨j, hj, rfl⟩ := List.getElem_of_mem hs
 have h1 := List.all_eq_true.1 h j (List.mem_range.2 hj)
 have h2 : Jcd l j = false := by simpa using h1
 unfold Jcd at h2
 rw [Bool.or_eq_false_iff] at h2
 rw [Jjo hj] at h2
 have h3 : JbW l[j] = true := by simpa using h2.1
 unfold JbW at h3
 simp only [Bool.and_eq_true] at h3
 obtain ⟨⟨⟨⟨n0, _⟩, _⟩, _⟩, hsp⟩ := h3
 refine ⟨fun he => ?_, fun b hb he => ?_⟩
 ·have := congrArg List.length he
  rw [S.len] at this
  simp at n0
  simp at this
  omega
 ·subst he
  have : Q8 l[j].toList = true := by
   unfold Q8
   rw [List.any_eq_true]
   exact ⟨47, hb, rfl⟩
  rw [this] at hsp; cases hsp
theorem Jbj {p : List S} {n : S} (hp : ∀ s ∈ p, QV s) (hn : QV n) : ∀ s ∈ p ++ [n], QV s := fun s hs => by
 rcases List.mem_append.1 hs with h | h
 ·exact hp s h
 ·rw [List.mem_singleton.1 h]; exact hn
def Under (p : List S) (z : List UInt8) : Prop := ∃ (q : List S) (o : List UInt8) (r : List (List UInt8)), z = Jcf q ++ 32 :: o ∧ (∀ s ∈ q, QV s) ∧ tl q = tl p ++ r
theorem Under.up {p : List S} {n : S} {z : List UInt8} (h : Under (p ++ [n]) z) : Under p z := by
 obtain ⟨q, o, r, h1, h2, h3⟩ := h
 exact ⟨q, o, n.toList :: r, h1, h2, by rw [h3]; simp⟩
theorem Under.apart {p : List S} {n m : S} {z : List UInt8} (h : Under (p ++ [n]) z) (k : Under (p ++ [m]) z) : n.toList = m.toList := by
 obtain ⟨q, o, r, h1, h2, h3⟩ := h
 obtain ⟨q', o', r', k1, k2, k3⟩ := k
 have := (Jc4 h2 k2 (h1.symm.trans k1)).1
 rw [h3, k3] at this
 simp at this
 exact this.1
theorem Under.not {p : List S} {n : S} {o : List UInt8} (hp : ∀ s ∈ p, QV s) (h : Under (p ++ [n]) (Jcf p ++ 32 :: o)) : False := by
 obtain ⟨q, o', r, h1, h2, h3⟩ := h
 have := (Jc4 hp h2 h1).1
 rw [h3] at this
 have := congrArg List.length this
 simp at this
theorem JaV : ∀ (ts : List Nt) (ns p : List S) (z : List UInt8), z ∈ Qc ts ns p → ∃ (i : Nat) (h : i < ts.length) (h' : i < ns.length), z ∈ JC ts[i] (p ++ [ns[i]])
 | [], ns, p, z, h => by rw [QN] at h; cases h
 | _ :: _, [], p, z, h => by simp [Qc] at h
 | t :: ts, n :: ns, p, z, h => by
  rw [Qc, List.mem_append] at h
  rcases h with h | h
  ·exact ⟨0, by simp, by simp, h⟩
  ·obtain ⟨i, h1, h2, h3⟩ := JaV ts ns p z h
   exact ⟨i + 1, by simpa using h1, by simpa using h2, by simpa using h3⟩
theorem Jc5 : ∀ t : Nt, QA t = true → ∀ p, (∀ s ∈ p, QV s) → ∀ z ∈ JC t p, Under p z := Nt.ind fun kind text names kids ih hw p hp z hz => by
 rcases Q9 hw with ⟨h, rfl, rfl⟩ | ⟨rfl, _, h2, h3, h4⟩
 ·rw [Jcg h, List.mem_singleton] at hz
  exact ⟨p, _, [], hz, hp, by simp⟩
 ·rw [Jbi, List.mem_cons] at hz
  rcases hz with hz | hz
  ·exact ⟨p, _, [], hz, hp, by simp⟩
  ·obtain ⟨i, h5, h6, h7⟩ := JaV _ _ _ _ hz
   exact (ih _ (List.getElem_mem h5) (h4 _ (List.getElem_mem h5)) _ (Jbj hp (Jan h3 _ (List.getElem_mem h6))) z h7).up
theorem JfR {l : List S} (h : JkY l) : l.Pairwise fun a b => a.toList ≠ b.toList := by
 rw [List.pairwise_iff_getElem]
 intro i j hi hj hij he
 have h1 := Jfz (h i j hj hij)
 rw [Jew he] at h1; cases h1
theorem Jc6 : ∀ (ts : List Nt) (ns p : List S), ts.length = ns.length → ns.Pairwise (fun a b => a.toList ≠ b.toList) → (∀ t ∈ ts, ∀ n ∈ ns, (JC t (p ++ [n])).Nodup ∧ ∀ z ∈ JC t (p ++ [n]), Under (p ++ [n]) z) → (Qc ts ns p).Nodup
 | [], ns, p, _, _, _ => by rw [QN]; exact .nil
 | t :: ts, [], p, h, _, _ => by simp at h
 | t :: ts, n :: ns, p, h, hn, ih => by
  rw [List.pairwise_cons] at hn
  rw [Qc, List.nodup_append]
  refine ⟨(ih t (by simp) n (by simp)).1, Jc6 ts ns p (by simpa using h) hn.2 fun u hu m hm => ih u (by simp [hu]) m (by simp [hm]), fun a ha b hb he => ?_⟩
  subst he
  obtain ⟨i, h5, h6, h7⟩ := JaV _ _ _ _ hb
  exact hn.1 _ (List.getElem_mem h6) (((ih t (by simp) n (by simp)).2 a ha).apart ((ih ts[i] (by simp) ns[i] (by simp)).2 a h7))
theorem Jg8 : ∀ t : Nt, QA t = true → ∀ p, (∀ s ∈ p, QV s) → (JC t p).Nodup := Nt.ind fun kind text names kids ih hw p hp => by
 rcases Q9 hw with ⟨h, rfl, rfl⟩ | ⟨rfl, _, h2, h3, h4⟩
 ·rw [Jcg h]; simp
 ·rw [Jbi, List.nodup_cons]
  have hu : ∀ t ∈ kids, ∀ n ∈ names, ∀ z ∈ JC t (p ++ [n]), Under (p ++ [n]) z := fun t ht n hn => Jc5 t (h4 t ht) _ (Jbj hp (Jan h3 _ hn))
  refine ⟨fun hz => ?_, Jc6 kids names p h2.symm (JfR (Jf7 h3)) fun t ht n hn => ⟨ih t ht (h4 t ht) _ (Jbj hp (Jan h3 _ hn)), hu t ht n hn⟩⟩
  obtain ⟨i, h5, h6, h7⟩ := JaV _ _ _ _ hz
  exact (hu _ (List.getElem_mem h5) _ (List.getElem_mem h6) _ h7).not hp
theorem Jks {k k' : Nat} {a b : S} (hk : k = 1 ∨ k = 3 ∨ (k = 2 ∧ a.n = 0)) (hk' : k' = 1 ∨ k' = 3 ∨ (k' = 2 ∧ b.n = 0)) (h : Jfw k a = Jfw k' b) : k = k' ∧ a.toList = b.toList := by
 have z : ∀ {s : S}, s.n = 0 → s.toList = [] := fun h => List.eq_nil_of_length_eq_zero (by rw [S.len]; exact h)
 rcases hk with rfl | rfl | ⟨rfl, ha⟩ <;> rcases hk' with rfl | rfl | ⟨rfl, hb⟩ <;> simp [Jfw] at h
 ·exact ⟨rfl, Jdg _ _ h⟩
 ·exact ⟨rfl, Jdg _ _ h⟩
 ·exact ⟨rfl, by rw [z ha, z hb]⟩
theorem JdX {kind : Nat} {text : S} {names : List S} {kids : List Nt} (h : QA (.mk kind text names kids) = true) : kind = 1 ∨ kind = 3 ∨ (kind = 2 ∧ text.n = 0) := by
 rcases Q9 h with ⟨h | h, _⟩ | ⟨h, h2, _⟩
 ·exact .inl h
 ·exact .inr (.inl h)
 ·exact .inr (.inr ⟨h, h2⟩)
theorem JfS {p : List S} {n : S} : ∀ {A A' B B' : List (List UInt8)}, (∀ z ∈ A, Under (p ++ [n]) z) → (∀ z ∈ A', Under (p ++ [n]) z) → (∀ z ∈ B, ¬ Under (p ++ [n]) z) → (∀ z ∈ B', ¬ Under (p ++ [n]) z) → A ++ B = A' ++ B' → A = A' ∧ B = B'
 | [], [], _, _, _, _, _, _, h => ⟨rfl, by simpa using h⟩
 | [], a :: A', B, B', _, h2, h3, _, h => by
  have : B = a :: (A' ++ B') := by simpa using h
  exact absurd (h2 a (by simp)) (h3 a (by rw [this]; simp))
 | a :: A, [], B, B', h1, _, _, h4, h => by
  have : B' = a :: (A ++ B) := by simpa using h.symm
  exact absurd (h1 a (by simp)) (h4 a (by rw [this]; simp))
 | a :: A, a' :: A', B, B', h1, h2, h3, h4, h => by
  simp only [List.cons_append, List.cons.injEq] at h
  obtain ⟨k1, k2⟩ := JfS (fun z hz => h1 z (by simp [hz])) (fun z hz => h2 z (by simp [hz])) h3 h4 h.2
  exact ⟨by rw [h.1, k1], k2⟩
theorem Under.tl {p q : List S} {z : List UInt8} (h : Under p z) (e : tl p = tl q) : Under q z := by
 obtain ⟨a, o, r, h1, h2, h3⟩ := h
 exact ⟨a, o, r, h1, h2, by rw [h3, e]⟩
theorem JcC (t : Nt) (p : List S) : ∃ o r, JC t p = (Jcf p ++ 32 :: o) :: r := by
 cases t with
 | mk k a ns ks => exact ⟨_, _, by rw [JC]⟩
structure KidsW (ts : List Nt) (ns p : List S) : Prop where
 l : ts.length = ns.length
 ne : ns.Pairwise (fun a b => a.toList ≠ b.toList)
 pl : ∀ n ∈ ns, ∀ s ∈ p ++ [n], QV s
 u : ∀ t ∈ ts, ∀ n ∈ ns, ∀ z ∈ JC t (p ++ [n]), Under (p ++ [n]) z
theorem KidsW.tail {t : Nt} {ts : List Nt} {n : S} {ns p : List S} (h : KidsW (t :: ts) (n :: ns) p) : KidsW ts ns p :=
 ⟨by simpa using h.l, (List.pairwise_cons.1 h.ne).2, fun m hm => h.pl m (by simp [hm]), fun u hu m hm => h.u u (by simp [hu]) m (by simp [hm])⟩
theorem KidsW.rest {t : Nt} {ts : List Nt} {n : S} {ns p : List S} (h : KidsW (t :: ts) (n :: ns) p) : ∀ z ∈ Qc ts ns p, ¬ Under (p ++ [n]) z := fun z hz hu => by
 obtain ⟨i, h5, h6, h7⟩ := JaV _ _ _ _ hz
 exact (List.pairwise_cons.1 h.ne).1 _ (List.getElem_mem h6) (hu.apart (h.u ts[i] (by simp) ns[i] (by simp) z h7))
theorem JcL : ∀ (ts : List Nt) (ns : List S) (ts' : List Nt) (ns' p p' : List S), KidsW ts ns p → KidsW ts' ns' p' → tl p = tl p' → (∀ t ∈ ts, ∀ t' ∈ ts', ∀ q q', (∀ s ∈ q, QV s) → (∀ s ∈ q', QV s) → tl q = tl q' → JC t q = JC t' q' → Jai t t' = true) →
  Qc ts ns p = Qc ts' ns' p' → Ja9 S.same ns ns' = true ∧ Jbr ts ts' = true
 | [], [], [], [], _, _, _, _, _, _, _ => ⟨rfl, rfl⟩
 | [], _ :: _, _, _, _, _, h, _, _, _, _ => by have := h.l; simp at this
 | _ :: _, [], _, _, _, _, h, _, _, _, _ => by have := h.l; simp at this
 | [], [], _ :: _, [], _, _, _, h, _, _, _ => by have := h.l; simp at this
 | [], [], [], _ :: _, _, _, _, h, _, _, _ => by have := h.l; simp at this
 | _ :: _, _ :: _, [], _ :: _, _, _, _, h, _, _, _ => by have := h.l; simp at this
 | _ :: _, _ :: _, _ :: _, [], _, _, _, h, _, _, _ => by have := h.l; simp at this
 | [], [], t' :: ts', n' :: ns', p, p', _, _, _, _, h => by
  obtain ⟨o, r, e⟩ := JcC t' (p' ++ [n'])
  rw [QN, Qc, e] at h
  simp at h
 | t :: ts, n :: ns, [], [], p, p', _, _, _, _, h => by
  obtain ⟨o, r, e⟩ := JcC t (p ++ [n])
  rw [QN, Qc, e] at h
  simp at h
 | t :: ts, n :: ns, t' :: ts', n' :: ns', p, p', hw, hw', hp, ih, h => by
  rw [Qc, Qc] at h
  have hn : n.toList = n'.toList := by
   obtain ⟨o, r, e⟩ := JcC t (p ++ [n])
   obtain ⟨o', r', e'⟩ := JcC t' (p' ++ [n'])
   rw [e, e'] at h
   simp only [List.cons_append, List.cons.injEq] at h
   have := (Jc4 (hw.pl n (by simp)) (hw'.pl n' (by simp)) h.1).1
   simp [hp] at this
   exact this
  have hpp : tl (p ++ [n]) = tl (p' ++ [n']) := by simp [hp, hn]
  obtain ⟨h1, h2⟩ := JfS (hw.u t (by simp) n (by simp)) (fun z hz => (hw'.u t' (by simp) n' (by simp) z hz).tl hpp.symm) hw.rest (fun z hz hu => hw'.rest z hz (hu.tl hpp)) h
  have h3 := ih t (by simp) t' (by simp) _ _ (hw.pl n (by simp)) (hw'.pl n' (by simp)) hpp h1
  obtain ⟨h4, h5⟩ := JcL ts ns ts' ns' p p' hw.tail hw'.tail hp (fun u hu u' hu' => ih u (by simp [hu]) u' (by simp [hu'])) h2
  exact ⟨by simp [Ja9, Jew hn, h4], by simp [Jbr, h3, h5]⟩
theorem Jmi {names : List S} {kids : List Nt} {p : List S} (hp : ∀ s ∈ p, QV s) (h2 : names.length = kids.length) (h3 : Q7 names = true) (h4 : ∀ t ∈ kids, QA t = true) : KidsW kids names p :=
 ⟨h2.symm, JfR (Jf7 h3), fun n hn => Jbj hp (Jan h3 n hn), fun t ht _n hn => Jc5 t (h4 t ht) _ (Jbj hp (Jan h3 _ hn))⟩
theorem Jgw : ∀ t : Nt, QA t = true → ∀ t', QA t' = true → ∀ p p', (∀ s ∈ p, QV s) → (∀ s ∈ p', QV s) → tl p = tl p' → JC t p = JC t' p' → Jai t t' = true := Nt.ind fun kind text names kids ih hw t' hw' p p' hp hp' he h => by
 cases t' with
 | mk kind' text' names' kids' =>
  have h0 := h
  rw [JC, JC, List.cons.injEq] at h0
  obtain ⟨h1, h2⟩ := Jks (JdX hw) (JdX hw') (Jc4 hp hp' h0.1).2
  subst h1
  rcases Q9 hw with ⟨k, rfl, rfl⟩ | ⟨rfl, _, k2, k3, k4⟩
  ·rcases Q9 hw' with ⟨k', rfl, rfl⟩ | ⟨rfl, _⟩
   ·simp [Jai, Jew h2, Ja9, Jbr]
   ·rcases k with k | k <;> cases k
  ·rcases Q9 hw' with ⟨k', _⟩ | ⟨_, _, l2, l3, l4⟩
   ·rcases k' with k' | k' <;> cases k'
   ·rw [Jbi, Jbi, List.cons.injEq] at h
    obtain ⟨a, b⟩ := JcL kids names kids' names' p p' (Jmi hp k2 k3 k4) (Jmi hp' l2 l3 l4) he (fun t ht t' ht' q q' hq hq' e hh => ih t ht (k4 t ht) t' (l4 t' ht') q q' hq hq' e hh) h.2
    simp [Jai, Jew h2, a, b]
theorem Jc7 : ∀ (ts : List Nt) (ns : List S) (ts' : List Nt) (ns' p p' : List S), tl p = tl p' → Ja9 S.same ns ns' = true → Jbr ts ts' = true → (∀ t ∈ ts, ∀ t' ∈ ts', ∀ q q', tl q = tl q' → Jai t t' = true → JC t q = JC t' q') → Qc ts ns p = Qc ts' ns' p'
 | [], ns, ts', ns', p, p', _, _, h, _ => by
  have : ts' = [] := by simpa [Jbr] using h
  subst this
  rw [QN, QN]
 | t :: ts, ns, [], ns', p, p', _, _, h, _ => by simp [Jbr] at h
 | t :: ts, [], t' :: ts', [], p, p', _, _, _, _ => by simp [Qc]
 | t :: ts, [], t' :: ts', _ :: _, p, p', _, h, _, _ => by simp [Ja9] at h
 | t :: ts, _ :: _, t' :: ts', [], p, p', _, h, _, _ => by simp [Ja9] at h
 | t :: ts, n :: ns, t' :: ts', n' :: ns', p, p', hp, h, k, ih => by
  simp only [Ja9, Bool.and_eq_true] at h
  simp only [Jbr, Bool.and_eq_true] at k
  rw [Qc, Qc, ih t (by simp) t' (by simp) (p ++ [n]) (p' ++ [n']) (by simp [hp, Jbw h.1]) k.1,
   Jc7 ts ns ts' ns' p p' hp h.2 k.2 fun u hu u' hu' => ih u (by simp [hu]) u' (by simp [hu'])]
theorem Jg9 : ∀ t t' : Nt, ∀ p p', tl p = tl p' → Jai t t' = true → JC t p = JC t' p' := Nt.ind fun kind text names kids ih t' p p' he h => by
 cases t' with
 | mk kind' text' names' kids' =>
  simp only [Jai, Bool.and_eq_true, decide_eq_true_eq] at h
  obtain ⟨rfl, h2, h3, h4⟩ := h
  rw [JC, JC, JlI he, Jc7 kids names kids' names' p p' he h3 h4 fun t ht t' _ q q' e hs => ih t ht t' q q' e hs]
  unfold Jfw
  rw [Jbw h2]
theorem Jig {t t' : Nt} (hw : QA t = true) (hw' : QA t' = true) : decide (JC t [] = JC t' []) = Jai t t' := by
 cases h : Jai t t' with
 | true => exact decide_eq_true (Jg9 t t' [] [] rfl h)
 | false =>
  refine decide_eq_false fun e => ?_
  rw [Jgw t hw t' hw' [] [] (fun s hs => by cases hs) (fun s hs => by cases hs) rfl e] at h
  cases h
end Go.Vm
namespace Go.Vm
open Go Go.Proofs Go.Pa
attribute [local simp] OkS J0 OkG JX J2 OkD JH J1 Ju Jg Jh vop Ji Jp ev evs toV Jf Fr.dsTo Fr.glTo Fr.toNone Jc Jd Je JZ Qk Jb Jr Jj V.undef JG Jx JK JI JL JO JT JP JF JQ JU JM JJ JV Jo Jk Jl Js Jt Jn Jy Jz Jw J3
theorem JfT {p : List S} (hp : p.length ≤ 600) (hs : ∀ s ∈ p, s.n ≤ 64) : (Jbs p).length ≤ 39001 := by
 cases p with
 | nil => simp [Jbs]
 | cons a p =>
  rw [JeE (by simp)]
  have h := JbF 47 (B := 64) (a :: p) hs
  have : (64 + 1) * (a :: p).length ≤ 65 * 600 := Nat.mul_le_mul_left _ hp
  omega
theorem JmA {p : List S} (hp : p.length ≤ 600) (hs : ∀ s ∈ p, s.n ≤ 64) : (Jcf p).length ≤ 156100 := by
 have h1 := JfT hp hs
 have h2 := JbX (Jbs p)
 have h3 := Jhe (esc (Jbs p))
 unfold Jcf; omega
theorem Jih {l : List S} (h : Q7 l = true) : ∀ s ∈ l, s.n ≤ 64 := by
 intro s hs
 obtain ⟨j, hj, rfl⟩ := List.getElem_of_mem hs
 have h1 := List.all_eq_true.1 h j (List.mem_range.2 hj)
 have h2 : Jcd l j = false := by simpa using h1
 unfold Jcd at h2
 rw [Bool.or_eq_false_iff] at h2
 rw [Jjo hj] at h2
 have h3 : JbW l[j] = true := by simpa using h2.1
 unfold JbW at h3
 simp only [Bool.and_eq_true, decide_eq_true_eq] at h3
 exact h3.1.1.1.2
theorem JlJ {p : List S} {n : S} (hp : ∀ s ∈ p, s.n ≤ 64) (hn : n.n ≤ 64) : ∀ s ∈ p ++ [n], s.n ≤ 64 := fun s hs => by
 rcases List.mem_append.1 hs with h | h
 ·exact hp s h
 ·rw [List.mem_singleton.1 h]; exact hn
variable [Memo] [NY]
end Go.Vm
namespace Go.Vm
open Go Go.Proofs Go.Pa
attribute [local simp] OkP Qo OkS J0 OkG JX J2 OkD JH J1 Ju Jg Jh vop Ji Jp ev evs toV Jf Fr.dsTo Fr.glTo Fr.toNone Jc Jd Je JZ Qk Jb Jr Jj V.undef JG Jx JK JI JL JO JT JP JF JQ JU JM JJ JV Jo Jk Jl Js Jt Jn Jy Jz Jw J3
def Jmj (st : St) (t : Nt) (v : V) (st' : St) : Prop := ∃ (x : V) (ts : List S), v = .tup [x, .int .i64 ((cond (QA t) 0 4 : Nat) : Int)] ∧ ts.map S.toList = cond (QA t) (JC t []) [] ∧ Mine st.ctr 9 st' x (ts.map .str)
variable [Memo] [NY] [NZ] [NO]
end Go.Vm
