/- Lines that tell the facts: plain. -/
import Derived.Test.YtphinjijaglokaaGreatDoorSzA
import Derived.Test.YtphinjijaglokaaGreatDoorSzM
namespace Go.Vm
open Go Go.Proofs Go.Pa
theorem Jcq (b : UInt8) (l : List UInt8) : esc (b :: l) = JbE b ++ esc l := by simp [esc]
theorem Jb1 (b : UInt8) : (b = 10 ∧ JbE b = [92, 110]) ∨ (b = 92 ∧ JbE b = [92, 92]) ∨ (b ≠ 10 ∧ b ≠ 92 ∧ JbE b = [b]) := by
 unfold JbE
 by_cases h : b = 10
 ·exact .inl ⟨h, by rw [if_pos h]⟩
 ·by_cases h2 : b = 92
  ·exact .inr (.inl ⟨h2, by rw [if_neg h, if_pos h2]⟩)
  ·exact .inr (.inr ⟨h, h2, by rw [if_neg h, if_neg h2]⟩)
theorem Jdg : ∀ (a b : List UInt8), esc a = esc b → a = b
 | [], [], _ => rfl
 | [], b :: y, h => by
  rw [Jcq] at h
  rcases Jb1 b with ⟨_, e⟩ | ⟨_, e⟩ | ⟨_, _, e⟩ <;> rw [e] at h <;> simp [esc] at h
 | a :: x, [], h => by
  rw [Jcq] at h
  rcases Jb1 a with ⟨_, e⟩ | ⟨_, e⟩ | ⟨_, _, e⟩ <;> rw [e] at h <;> simp [esc] at h
 | a :: x, b :: y, h => by
  rw [Jcq, Jcq] at h
  rcases Jb1 a with ⟨a1, ea⟩ | ⟨a1, ea⟩ | ⟨a1, a2, ea⟩ <;> rcases Jb1 b with ⟨b1, eb⟩ | ⟨b1, eb⟩ | ⟨b1, b2, eb⟩ <;> rw [ea, eb] at h <;> simp at h
  ·rw [a1, b1, Jdg x y h]
  ·exact absurd h.1.symm b2
  ·rw [a1, b1, Jdg x y h]
  ·exact absurd h.1.symm b2
  ·exact absurd h.1 a2
  ·exact absurd h.1 a2
  ·rw [h.1, Jdg x y h.2]
def QV (s : S) : Prop := s.toList ≠ [] ∧ ∀ b ∈ s.toList, b ≠ 47
def JaI (p : List S) : List UInt8 := p.flatMap fun s => 47 :: s.toList
theorem JeY (p : List S) : JaI p = [] ∨ ∃ r, JaI p = 47 :: r := by
 cases p with
 | nil => exact .inl rfl
 | cons a p => exact .inr ⟨a.toList ++ JaI p, by simp [JaI]⟩
theorem Jht : ∀ (s t X Y : List UInt8), (∀ b ∈ s, b ≠ 47) → (∀ b ∈ t, b ≠ 47) → (X = [] ∨ ∃ r, X = 47 :: r) → (Y = [] ∨ ∃ r, Y = 47 :: r) → s ++ X = t ++ Y → s = t ∧ X = Y
 | [], [], X, Y, _, _, _, _, h => ⟨rfl, by simpa using h⟩
 | [], c :: t, X, Y, _, ht, hX, _, h => by
  rcases hX with rfl | ⟨r, rfl⟩
  ·simp at h
  ·simp at h; exact absurd h.1.symm (ht c (by simp))
 | c :: s, [], X, Y, hs, _, _, hY, h => by
  rcases hY with rfl | ⟨r, rfl⟩
  ·simp at h
  ·simp at h; exact absurd h.1 (hs c (by simp))
 | c :: s, d :: t, X, Y, hs, ht, hX, hY, h => by
  simp at h
  obtain ⟨h1, h2⟩ := Jht s t X Y (fun b hb => hs b (by simp [hb])) (fun b hb => ht b (by simp [hb])) hX hY h.2
  exact ⟨by rw [h.1, h1], h2⟩
theorem Jf5 : ∀ {p q : List S}, (∀ s ∈ p, QV s) → (∀ s ∈ q, QV s) → JaI p = JaI q → p.map S.toList = q.map S.toList
 | [], [], _, _, _ => rfl
 | [], a :: q, _, _, h => by simp [JaI] at h
 | a :: p, [], _, _, h => by simp [JaI] at h
 | a :: p, b :: q, hp, hq, h => by
  have e : ∀ (a : S) (p : List S), JaI (a :: p) = 47 :: (a.toList ++ JaI p) := fun a p => by simp [JaI]
  rw [e, e, List.cons.injEq] at h
  obtain ⟨h1, h2⟩ := Jht _ _ _ _ (hp a (by simp)).2 (hq b (by simp)).2 (JeY p) (JeY q) h.2
  rw [List.map_cons, List.map_cons, h1, Jf5 (fun s hs => hp s (by simp [hs])) (fun s hs => hq s (by simp [hs])) h2]
theorem JjT {p q : List S} (hp : ∀ s ∈ p, QV s) (hq : ∀ s ∈ q, QV s) (h : Jbs p = Jbs q) : p.map S.toList = q.map S.toList := by
 cases p with
 | nil =>
  cases q with
  | nil => rfl
  | cons b q =>
   exfalso
   have h2 : ([47] : List UInt8) = JaI (b :: q) := h
   have := (hq b (by simp)).1
   simp [JaI] at h2
   exact this h2.1
 | cons a p =>
  cases q with
  | nil =>
   exfalso
   have h2 : JaI (a :: p) = ([47] : List UInt8) := h
   have := (hp a (by simp)).1
   simp [JaI] at h2
   exact this h2.1
  | cons b q => exact Jf5 hp hq h
inductive FKd (f : Fw) : Prop where
 | any (h0 : f.known = false) (h1 : f.kind = 0) (h2 : f.rest = 0) (h3 : f.beside = 0) (h : Jh8 f = [97, 110, 121])
 | absent (h0 : f.known = true) (h1 : f.kind = 0) (h2 : f.rest = 0) (h3 : f.beside = 0) (h : Jh8 f = [97, 98, 115, 101, 110, 116])
 | file (h0 : f.known = true) (h1 : f.kind = 1) (h2 : f.rest = 0) (h3 : f.beside = 0) (h : Jh8 f = [102, 105, 108, 101])
 | link (h0 : f.known = true) (h1 : f.kind = 3) (h2 : f.rest = 0) (h3 : f.beside = 0) (h : Jh8 f = [108, 105, 110, 107])
 | whole (h0 : f.known = true) (h1 : f.kind = 2) (h2 : f.rest = 1) (h3 : f.beside = 0) (h : Jh8 f = [100, 105, 114, 32, 119, 104, 111, 108, 101])
 | more (h0 : f.known = true) (h1 : f.kind = 2) (h2 : f.rest = 2) (h3 : 0 ≤ f.beside ∧ f.beside ≤ 60) (h : Jh8 f = [100, 105, 114, 32, 109, 111, 114, 101, 32] ++ Ja1 f.beside.toNat)
 | dir (h0 : f.known = true) (h1 : f.kind = 2) (h2 : f.rest = 0) (h3 : f.beside = 0) (h : Jh8 f = [100, 105, 114])
end Go.Vm
namespace Go.Vm
open Go Go.Proofs Go.Pa
end Go.Vm
namespace Go.Vm
open Go Go.Proofs Go.Pa
abbrev tl (p : List S) : List (List UInt8) := p.map S.toList
end Go.Vm
namespace Go.Vm
open Go Go.Proofs Go.Pa
theorem pathB_tl : ∀ {p q : List S}, tl p = tl q → Jbs p = Jbs q
 | [], [], _ => rfl
 | [], _ :: _, h => by simp at h
 | _ :: _, [], h => by simp at h
 | a :: x, b :: y, h => by
  have key : ∀ {p q : List S}, tl p = tl q → JaI p = JaI q := by
   intro p
   induction p with
   | nil => intro q h; cases q with
    | nil => rfl
    | cons _ _ => simp at h
   | cons c p ih =>
    intro q h
    cases q with
    | nil => simp at h
    | cons d q =>
     simp only [List.map_cons, List.cons.injEq] at h
     show (47 :: c.toList) ++ JaI p = (47 :: d.toList) ++ JaI q
     rw [h.1, ih h.2]
  exact key h
end Go.Vm
namespace Go.Vm
open Go Go.Proofs Go.Pa
end Go.Vm
namespace Go.Vm
open Go Go.Proofs Go.Pa
attribute [local simp] OkP Qo OkS J0 OkG JX J2 OkD JH J1 Ju Jg Jh vop Ji Jp ev evs toV Jf Fr.dsTo Fr.glTo Fr.toNone Jc Jd Je JZ Qk Jb Jr Jj V.undef JG Jx JK JI JL JO JT JP JF JQ JU JM JJ JV Jo Jk Jl Js Jt Jn Jy Jz Jw J3
def JkS (s : S) (t : Nt) : Prop := t.okN ∧ QA t = true ∧ s.toList = shw t
def noN : Nt := .mk 0 ⟨0, 0⟩ [] []
structure ParseR (s : S) (st : St) (v : V) (st' : St) (cs : List V) (t : Nt) (ok : Bool) : Prop where
 v : v = .tup [.agg cs, .int .i64 ((cond ok 0 4 : Nat) : Int)]
 f : Jmr st st' cs t
 y : ok = true → JkS s t
 n : ok = false → t = noN ∧ ∀ t, ¬ JkS s t
variable [Memo] [NY] [NZ]
end Go.Vm
