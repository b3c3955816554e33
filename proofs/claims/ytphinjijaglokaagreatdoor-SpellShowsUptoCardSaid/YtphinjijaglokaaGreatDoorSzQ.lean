/- SpellBack: the law, by the program. -/
import Derived.Test.YtphinjijaglokaaGreatDoorSzP
namespace Go.Vm
open Go Go.Proofs Go.Pa
attribute [local simp] OkP QH OkS Qi OkG Qh Qp OkD JY Qr JI Jm Jq vop Js JB ev evs toV Jl Fr.dsTo Fr.glTo Fr.toNone Ji Jj Jk Qk QL Jd JD Jv V.undef JW JM J7 JX J3 J9 J8 Qa JH J4 J5 JZ JO Qb Jt Ju Jw Jz JE Jr JL JN JK Qq
theorem Jk7 : ∀ t : Nt, t.small → (shw t).length + 2000 ≤ 30000 * t.nodes := Nt.ind fun kind text names kids ih hs => by
 cases hs with
 | mk _ _ _ _ ht hn hnt hk hks =>
  have cl : ∀ z : S, z.n ≤ 20000 → (JaN z).length ≤ z.n + 7 := fun z hz => by
   have := JaP (n := z.n) (by omega)
   rw [JaN]; simp [S.len]; omega
  have hp := (Nt.mk kind text names kids).nodes_pos
  have := cl text ht
  by_cases h1 : kind = 1 ∨ kind = 3
  ·rw [Jaw h1]
   simp only [List.length_cons]; omega
  ·have h2 : shw (.mk kind text names kids) = 100 :: (QW names.length ++ 58 :: Jak kids names) := by
    simp only [shw]; rw [decide_eq_false (fun h => h1 (.inl h)), decide_eq_false (fun h => h1 (.inr h))]; rfl
   have key : ∀ (ks : List Nt) (ns : List S), (∀ t ∈ ks, (shw t).length + 2000 ≤ 30000 * t.nodes) → (∀ s ∈ ns, s.n ≤ 1000) → (Jak ks ns).length ≤ 30000 * Jae ks := fun ks => by
    induction ks with
    | nil => intro ns _ _; simp [Jak]
    | cons t ks ihk =>
     intro ns h h'
     cases ns with
     | nil => simp [Jak]
     | cons s ns =>
      have a1 := h t (by simp)
      have a2 := cl s (by have := h' s (by simp); omega)
      have a3 := h' s (by simp)
      have a4 := ihk ns (fun u hu => h u (by simp [hu])) (fun u hu => h' u (by simp [hu]))
      simp only [Jak, Jae, List.length_append]; omega
   have h5 := key kids names (fun t ht => ih t ht (hks t ht)) hnt
   have h6 := JaP (n := names.length) (by omega)
   rw [h2]
   simp only [List.length_cons, List.length_append, Nt.nodes]; omega
theorem Jf8 {s : S} (hs : s.n ≤ 100000) : ∀ t : Nt, t.okN → s.toList = shw t → t.fit := fun t ho h => JlV t (by have := Jmh t ho; rw [← h, S.len] at this; omega)
variable [Memo] [NY] [NZ] [NO] [NA]
end Go.Vm
