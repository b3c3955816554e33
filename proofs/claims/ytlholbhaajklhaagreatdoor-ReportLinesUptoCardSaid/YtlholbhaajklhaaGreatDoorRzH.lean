/- A scenario's lines: by the document. -/
import Derived.Test.YtlholbhaajklhaaGreatDoorRzG
namespace Go.Vm
open Go Go.Proofs Go.Pa
attribute [local simp] OkS Qz OkG Qi Qo OkD JZ Qg JK Jd Jk vop Jp Jy ev evs toV Ji Fr.dsTo Fr.glTo Fr.toNone Jf Jg Jh J9 QA Jc JF Jq V.undef JT JQ Qb J2 J3 J7 Qc Qd JN J4 Qe J8 JP Qf JB Jv Jw JD JG Jt JR JS JI J6
theorem JeO {l : List Fw} {z : List UInt8} : ∀ {ts : List Tw} {ns p : List S}, z ∈ Jag l ts ns p → ∃ i, ∃ hi : i < ts.length, ∃ hi' : i < ns.length, z ∈ Qm l ts[i] (p ++ [ns[i]])
 | [], ns, p, h => by rw [JbP] at h; cases h
 | t :: ts, [], p, h => by simp [Jag] at h
 | t :: ts, n :: ns, p, h => by
  simp only [Jag, List.mem_append] at h
  rcases h with h | h
  ·exact ⟨0, by simp, by simp, h⟩
  ·obtain ⟨i, hi, hi', hz⟩ := JeO h
   exact ⟨i + 1, by simpa using hi, by simpa using hi', by simpa using hz⟩
theorem Jkk {l : List Fw} (hm : MayF l) (hs : ∀ f ∈ l, f.small) (hl : l.length ≤ 60) {n : Int} (h0 : 0 ≤ n) (h1 : n < (l.length : Int)) : (Jh8 l n).length ≤ 302000 := by
 have hlt : n.toNat < l.length := by omega
 have hpl := Jdw hm n.toNat hlt
 exact Jhj (by omega) (JbO hm hs n.toNat hlt)
theorem Jl6 {l : List Fw} (hm : MayF l) (hs : ∀ f ∈ l, f.small) (hl : l.length ≤ 60) {t : Tw} (hsm : t.small) : Jbg l t = true → ∀ p : List S, p.length + t.nodes ≤ 250 → (∀ s ∈ p, s.n ≤ 300) → ∀ z ∈ Qm l t p, z.length ≤ 700000 := by
 induction hsm with
 | mk ref kind text base nv names kv kids ht hn hnt hk hks ih =>
  intro hmay p hp hps z hz
  have hp' : p.length + (QC kids + 1) ≤ 250 := by simpa only [Tw.nodes] using hp
  simp only [Qm, List.mem_cons] at hz
  have hc := Jhj (p := p) (by omega) hps
  have he := Q4 text.toList
  rw [S.len] at he
  rcases hz with rfl | hz
  ·have ho : (Jhl l ref kind text base).length ≤ 330000 := by
    rcases Jc0 hmay with h | h
    ·have := Jkk hm hs hl h.1 h.2
     unfold Jhl; rw [decide_eq_true h.1, cond_true]; simp; omega
    ·obtain ⟨m1, m2, m3⟩ := Jiz hmay h.1
     rw [← Jju h.1 m1 m2 m3]
     have hw := Jkr kind
     have hd : (Jhk l base).length ≤ 302010 := by
      unfold Jhk
      by_cases hb : 0 ≤ base
      ·have hb1 : base < (l.length : Int) := by
        rcases h.2 with h2 | h2
        ·have := m3 (by omega); omega
        ·exact h2.2.2.1 hb
       have := Jkk hm hs hl hb hb1
       rw [decide_eq_true hb, cond_true]; simp; omega
      ·rw [decide_eq_false hb, cond_false]; simp
     simp only [List.length_append]; omega
   simp only [List.length_append, List.length_cons, List.length_nil]; omega
  ·by_cases h0 : 0 ≤ ref
   ·rw [decide_eq_true h0, cond_true] at hz; cases hz
   ·rw [decide_eq_false h0, cond_false] at hz
    obtain ⟨i, hi, hi', hz⟩ := JeO hz
    have hin := List.getElem_mem hi
    have hnk := Jem hin
    have hmk : Jbg l kids[i] = true := by
     rcases Jc0 hmay with h | h
     ·exact absurd h.1 h0
     ·rcases h.2 with h2 | h2
      ·rw [h2.2.1] at hi; simp at hi
      ·exact h2.2.2.2 _ hin
    exact ih _ hin hmk _ (by simp; omega) (JfB hps (hnt _ (List.getElem_mem hi'))) z hz
variable [Memo] [NY] [NZ] [NO]
end Go.Vm
