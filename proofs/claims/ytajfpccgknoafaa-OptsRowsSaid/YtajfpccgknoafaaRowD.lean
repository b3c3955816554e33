/- What is said of words: told one by one, in one word, in another row, twice, and again out of Set. No program in sight. -/
import Derived.Test.YtajfpccgknoafaaRowC
namespace Go.Vm
open Go

theorem at_cons {w : S} {b : UInt8} {r : List UInt8} (h : w.toList = b :: r) : w.at 0 = b.toNat ∧ w.n = r.length + 1 := by
  have hn : w.n = r.length + 1 := by rw [← S.len, h]; rfl
  refine ⟨?_, hn⟩
  have h1 := S.toList_at w (i := 0) (by omega)
  rw [h] at h1
  have h2 := congrArg UInt8.toNat (Option.some.inj h1)
  have h3 := S.at_lt w 0
  simp at h2
  omega

/-- a word of options -/
theorem scan_opt {kn w : S} {b : UInt8} {ts r0 : List UInt8} {r : List S} {acc : List UInt8} (h : w.toList = 45 :: b :: ts) (hb : b ≠ 45) (hk : ∀ c ∈ b :: ts, c ∈ kn.toList) : scan kn (w :: r) acc = scan kn r (acc ++ b :: ts) := by
  obtain ⟨h1, h2⟩ := at_cons h
  have ho : isOpt w = true := by
    have e1 : (45 : UInt8).toNat = 45 := rfl
    simp only [isOpt, h1, h2, e1, List.length_cons]
    simp
  have hd : w.same dashes = false := by
    rw [S.same_eq, h]
    have : dashes.toList = [45, 45] := dec_enc _
    rw [this]
    simp [hb]
  have hkn : known kn w = true := by
    simp only [known, h, List.drop_succ_cons, List.drop_zero]
    rw [List.all_eq_true]
    intro c hc
    exact decide_eq_true (hk c hc)
  simp only [scan, ho, hd, hkn, h, List.drop_succ_cons, List.drop_zero]
  simp

/-- behind -- -/
theorem scan_dashes {kn w : S} {r : List S} {acc : List UInt8} (h : w.toList = [45, 45]) : scan kn (w :: r) acc = some (acc, r) := by
  obtain ⟨h1, h2⟩ := at_cons h
  have ho : isOpt w = true := by
    have e1 : (45 : UInt8).toNat = 45 := rfl
    simp only [isOpt, h1, h2, e1, List.length_cons]
    simp
  have hd : w.same dashes = true := by
    rw [S.same_eq, h]
    have : dashes.toList = [45, 45] := dec_enc _
    rw [this]
    simp
  simp [scan, ho, hd]

/-- one by one -/
theorem scan_one {kn : S} {r : List S} : ∀ (ws : List S) (ts acc : List UInt8), ws.map S.toList = ts.map (fun b => [45, b]) → (∀ b ∈ ts, b ∈ kn.toList ∧ b ≠ 45) → scan kn (ws ++ r) acc = scan kn r (acc ++ ts)
  | [], [], acc, _, _ => by simp
  | [], _ :: _, acc, h, _ => by simp at h
  | _ :: _, [], acc, h, _ => by simp at h
  | w :: ws, b :: ts, acc, h, hk => by
    simp only [List.map_cons, List.cons.injEq] at h
    have hb := hk b (List.mem_cons_self ..)
    rw [List.cons_append, scan_opt (r0 := []) h.1 hb.2 (fun c hc => by rw [List.mem_singleton.1 hc]; exact hb.1), scan_one ws ts _ h.2 (fun c hc => hk c (List.mem_cons_of_mem _ hc))]
    simp

/-- the letters told are known -/
theorem scan_known {kn : S} : ∀ (l : List S) (acc : List UInt8) (p : List UInt8 × List S), scan kn l acc = some p → (∀ b ∈ acc, b ∈ kn.toList) → ∀ b ∈ p.1, b ∈ kn.toList
  | [], acc, p, h, ha => by simp only [scan, Option.some.injEq] at h; subst h; exact ha
  | w :: r, acc, p, h, ha => by
    simp only [scan] at h
    split at h
    · split at h
      · simp only [Option.some.injEq] at h; subst h; exact ha
      · split at h
        · rename_i hk
          refine scan_known r _ p h fun b hb => ?_
          rcases List.mem_append.1 hb with hb | hb
          · exact ha b hb
          · exact of_decide_eq_true (List.all_eq_true.1 hk b hb)
        · cases h
    · simp only [Option.some.injEq] at h; subst h; exact ha

theorem mem_setFrom (t : List UInt8) (b : UInt8) : ∀ (n c : Nat), c + n ≤ 256 → (b ∈ setFrom t c n ↔ b ∈ t ∧ c ≤ b.toNat ∧ b.toNat < c + n)
  | 0, c, _ => by simp [setFrom]
  | n + 1, c, h => by
    have ih := mem_setFrom t b n (c + 1) (by omega)
    rw [setFrom_step, List.mem_append, ih]
    have hto : (UInt8.ofNat c).toNat = c := by simp; omega
    constructor
    · rintro (h1 | ⟨h1, h2, h3⟩)
      · split at h1
        · rename_i hm
          rw [List.mem_singleton.1 h1]
          exact ⟨hm, by omega, by omega⟩
        · cases h1
      · exact ⟨h1, by omega, by omega⟩
    · rintro ⟨h1, h2, h3⟩
      by_cases hb : b.toNat = c
      · have : b = UInt8.ofNat c := by
          apply UInt8.toNat_inj.1
          rw [hto, hb]
        subst this
        exact .inl (by rw [if_pos h1]; exact List.mem_singleton.2 rfl)
      · exact .inr ⟨h1, by omega, by omega⟩

theorem mem_setOf (t : List UInt8) (b : UInt8) : b ∈ setOf t ↔ b ∈ t := by
  have := mem_setFrom t b 256 0 (by omega)
  have hb : b.toNat < 256 := b.toNat_lt
  rw [setOf, this]
  constructor
  · exact fun h => h.1
  · exact fun h => ⟨h, by omega, by omega⟩

theorem setFrom_congr {t u : List UInt8} (h : ∀ b, b ∈ t ↔ b ∈ u) : ∀ (n c : Nat), setFrom t c n = setFrom u c n
  | 0, c => rfl
  | n + 1, c => by
    rw [setFrom_step, setFrom_step, setFrom_congr h n (c + 1)]
    have := h (UInt8.ofNat c)
    by_cases hm : UInt8.ofNat c ∈ t
    · rw [if_pos hm, if_pos (this.1 hm)]
    · rw [if_neg hm, if_neg (fun h => hm (this.2 h))]

theorem setOf_congr {t u : List UInt8} (h : ∀ b, b ∈ t ↔ b ∈ u) : setOf t = setOf u := setFrom_congr h 256 0

theorem letter_no_dash {kn : S} (h : lettersOk kn) {b : UInt8} (hb : b ∈ kn.toList) : b ≠ 45 := by
  rintro rfl
  obtain ⟨i, hi, he⟩ := List.getElem_of_mem hb
  have hi' : i < kn.n := by rwa [S.len] at hi
  have h1 := S.toList_at kn hi'
  rw [List.getElem?_eq_getElem hi, he] at h1
  have h2 := congrArg UInt8.toNat (Option.some.inj h1)
  have h3 := S.at_lt kn i
  simp at h2
  have h4 := h i hi'
  have h5 : kn.at i = 45 := by omega
  rw [h5] at h4
  cases h4

/-- the parse of words whose cut is known -/
theorem parseS_of {kn : S} (hk : lettersOk kn) {l r : List S} {t : List UInt8} (hs : scan kn l [] = some (t, r)) {most : Int} (hm : (r.length : Int) ≤ most) : parseS kn l 0 most = (setOf t, r, 0) := by
  have h0 : (0 : Int) ≤ (r.length : Int) := Int.natCast_nonneg _
  refine parseS_ok (fun h => ?_) hs (fun h => ?_)
  · rcases h with h | h | h
    · omega
    · omega
    · exact h hk
  · rcases h with h | h <;> omega

end Go.Vm
