/- What a script's tokens are, on lists of bytes: plain, no program in sight. -/
namespace Go.Lx

/-- what a word ends ahead of -/
def endsL (b : UInt8) : Bool := [32, 9, 10, 59, 38, 124, 60, 62, 40, 41].elem b

def opsL : List (List UInt8) := [[38, 38], [124, 124], [59, 59], [60, 60], [62, 62], [59], [38], [124], [60], [62], [40], [41]]

/-- the operator's number -/
def opIx (r : List UInt8) : Option Nat := opsL.findIdx? fun o => o.isPrefixOf r
/-- the operator that stands there -/
def opTx (r : List UInt8) : List UInt8 :=
  match opIx r with
  | some i => opsL.getD i []
  | none => []

/-- how many bytes behind a quote its end lies -/
def quoteL (q : UInt8) : List UInt8 → Option Nat
  | [] => none
  | b :: r =>
    if b = q then some 0
    else if q = 34 ∧ b = 92 then
      if r = [] then none else (quoteL q (r.drop 1)).map (· + 2)
    else (quoteL q r).map (· + 1)
termination_by l => l.length
decreasing_by all_goals simp <;> omega

theorem quoteL_lt (q : UInt8) : ∀ (n : Nat) (r : List UInt8), r.length ≤ n → ∀ m, quoteL q r = some m → m < r.length
  | n, [], _, m, h => by simp [quoteL] at h
  | 0, b :: r, hn, m, h => by simp at hn
  | n + 1, b :: r, hn, m, h => by
    simp only [List.length_cons] at hn
    rw [quoteL] at h
    by_cases h1 : b = q
    · simp [h1] at h; subst h; simp
    · by_cases h2 : q = 34 ∧ b = 92
      · rw [if_neg h1, if_pos h2] at h
        cases r with
        | nil => simp at h
        | cons c r' =>
          simp only [List.drop_succ_cons, List.drop_zero, reduceCtorEq, if_false, Option.map_eq_some_iff] at h
          obtain ⟨k, hk, rfl⟩ := h
          simp only [List.length_cons] at hn
          have := quoteL_lt q n r' (by omega) k hk
          simp only [List.length_cons]; omega
      · rw [if_neg h1, if_neg h2] at h
        simp only [Option.map_eq_some_iff] at h
        obtain ⟨k, hk, rfl⟩ := h
        have := quoteL_lt q n r (by omega) k hk
        simp only [List.length_cons]; omega

def addL (n : Nat) (x : Nat × Bool) : Nat × Bool := (n + x.1, x.2)

/-- how long the word is; false: a quote does not end, there -/
def wordL : List UInt8 → Nat × Bool
  | [] => (0, true)
  | b :: r =>
    if b = 92 then
      if r = [] then (1, true) else addL 2 (wordL (r.drop 1))
    else if b = 39 ∨ b = 34 then
      match quoteL b r with
      | none => (0, false)
      | some n => addL (n + 2) (wordL (r.drop (n + 1)))
    else if endsL b = true then (0, true)
    else addL 1 (wordL r)
termination_by l => l.length
decreasing_by all_goals simp <;> omega

theorem wordL_le : ∀ (n : Nat) (r : List UInt8), r.length ≤ n → (wordL r).1 ≤ r.length ∧ ((wordL r).2 = false → (wordL r).1 < r.length)
  | n, [], _ => by simp [wordL]
  | 0, b :: r, hn => by simp at hn
  | n + 1, b :: r, hn => by
    simp only [List.length_cons] at hn
    rw [wordL]
    by_cases h1 : b = 92
    · rw [if_pos h1]
      cases r with
      | nil => simp
      | cons c r' =>
        simp only [List.length_cons] at hn
        have := wordL_le n r' (by omega)
        simp only [List.drop_succ_cons, List.drop_zero, reduceCtorEq, if_false, addL, List.length_cons]
        exact ⟨by omega, fun h => by have := this.2 h; omega⟩
    · rw [if_neg h1]
      by_cases h2 : b = 39 ∨ b = 34
      · rw [if_pos h2]
        cases hq : quoteL b r with
        | none => simp
        | some m =>
          have hm := quoteL_lt b r.length r (Nat.le_refl _) m hq
          have := wordL_le n (r.drop (m + 1)) (by simp; omega)
          simp only [addL, List.length_cons, List.length_drop] at this ⊢
          exact ⟨by omega, fun h => by have := this.2 h; omega⟩
      · rw [if_neg h2]
        by_cases h3 : endsL b = true
        · rw [if_pos h3]; simp
        · rw [if_neg h3]
          have := wordL_le n r (by omega)
          simp only [addL, List.length_cons]
          exact ⟨by omega, fun h => by have := this.2 h; omega⟩

theorem opIx_nil : opIx [] = none := by rfl

theorem opIx_none {b : UInt8} {r : List UInt8} (h : [59, 38, 124, 60, 62, 40, 41].elem b = false) : opIx (b :: r) = none := by
  simp only [List.elem_eq_mem, List.mem_cons, List.not_mem_nil, or_false, decide_eq_false_iff_not, not_or] at h
  obtain ⟨h1, h2, h3, h4, h5, h6, h7⟩ := h
  simp [opIx, opsL, List.findIdx?_cons, List.isPrefixOf, Ne.symm h1, Ne.symm h2, Ne.symm h3, Ne.symm h4, Ne.symm h5, Ne.symm h6, Ne.symm h7]

theorem opIx_some {b : UInt8} {r : List UInt8} (h : [59, 38, 124, 60, 62, 40, 41].elem b = true) : ∃ i, opIx (b :: r) = some i := by
  cases ho : opIx (b :: r) with
  | some i => exact ⟨i, rfl⟩
  | none =>
    exfalso
    unfold opIx at ho
    rw [List.findIdx?_eq_none_iff] at ho
    simp only [List.elem_eq_mem, List.mem_cons, List.not_mem_nil, or_false, decide_eq_true_eq] at h
    have := ho [b] (by rcases h with h | h | h | h | h | h | h <;> subst h <;> simp [opsL])
    simp [List.isPrefixOf] at this

theorem opIx_len {r : List UInt8} {i : Nat} (h : opIx r = some i) : i < 12 ∧ opTx r = opsL.getD i [] ∧ (opTx r).isPrefixOf r = true ∧ 1 ≤ (opTx r).length ∧ (opTx r).length ≤ r.length ∧ (opTx r).length ≤ 2 := by
  have ht : opTx r = opsL.getD i [] := by simp [opTx, h]
  have h0 := h
  unfold opIx at h
  rw [List.findIdx?_eq_some_iff_getElem] at h
  obtain ⟨hi, hp, _⟩ := h
  have hi' : i < 12 := hi
  have hg : opsL[i]'hi = opsL.getD i [] := by rw [List.getD_eq_getElem?_getD, List.getElem?_eq_getElem hi]; rfl
  have hp : (opTx r).isPrefixOf r = true := by rw [ht, ← hg]; exact hp
  have hl : 1 ≤ (opsL.getD i []).length ∧ (opsL.getD i []).length ≤ 2 := by
    have : ∀ j, j < 12 → 1 ≤ (opsL.getD j []).length ∧ (opsL.getD j []).length ≤ 2 := by decide
    exact this i hi'
  rw [← ht] at hl
  have := (List.isPrefixOf_iff_prefix.1 hp).length_le
  exact ⟨hi', ht, hp, hl.1, this, hl.2⟩

/-- a word ends ahead of a blank, and ahead of an operator -/
theorem ends_op (b : UInt8) (r : List UInt8) : endsL b = ((b == 32 || b == 9 || b == 10) || (opIx (b :: r)).isSome) := by
  by_cases h : [59, 38, 124, 60, 62, 40, 41].elem b = true
  · obtain ⟨i, hi⟩ := opIx_some (r := r) h
    rw [hi]
    simp only [List.elem_eq_mem, List.mem_cons, List.not_mem_nil, or_false, decide_eq_true_eq] at h
    simp [endsL]
    rcases h with h | h | h | h | h | h | h <;> subst h <;> simp
  · have h' : [59, 38, 124, 60, 62, 40, 41].elem b = false := by simpa using h
    rw [opIx_none h']
    simp only [List.elem_eq_mem, List.mem_cons, List.not_mem_nil, or_false, decide_eq_false_iff_not, not_or] at h'
    obtain ⟨h1, h2, h3, h4, h5, h6, h7⟩ := h'
    rw [Bool.eq_iff_iff]
    simp [endsL, h1, h2, h3, h4, h5, h6, h7]
    constructor
    · rintro (h | h | h) <;> simp [h]
    · rintro ((h | h) | h) <;> simp [h]

structure Tok where
  k : Nat
  t : List UInt8
  p : Nat
  deriving DecidableEq

/-- what stands next: a gap, a token, what is wrong -/
inductive Stp
  | gap (n : Nat)
  | tok (k n : Nat)
  | bad (n : Nat)

def kindL (t : List UInt8) : Nat := if t = [33] ∨ t = [123] ∨ t = [125] then 2 else 3

/-- a remark's length -/
def eolL (r : List UInt8) : Nat := (r.takeWhile (· ≠ 10)).length

def stepL (b : UInt8) (r : List UInt8) : Stp :=
  if b = 32 ∨ b = 9 then .gap 1
  else if [92, 10].isPrefixOf (b :: r) = true then .gap 2
  else if b = 35 then .gap (eolL (b :: r))
  else if b = 10 then .tok 1 1
  else match opIx (b :: r) with
    | some _ => .tok 2 (opTx (b :: r)).length
    | none =>
      match wordL (b :: r) with
      | (n, false) => .bad n
      | (n, true) => .tok (kindL ((b :: r).take n)) n

theorem wordL_pos {b : UInt8} {r : List UInt8} (h1 : ¬ (b = 32 ∨ b = 9)) (h2 : b ≠ 10) (h3 : opIx (b :: r) = none) (h4 : (wordL (b :: r)).2 = true) : 1 ≤ (wordL (b :: r)).1 := by
  have he : endsL b = false := by
    rw [ends_op b r, h3]
    simp at h1
    simp [h1, h2]
  rw [wordL] at h4 ⊢
  by_cases h5 : b = 92
  · rw [if_pos h5]
    cases r with
    | nil => simp
    | cons c r' => simp [addL]; omega
  · rw [if_neg h5] at h4 ⊢
    by_cases h6 : b = 39 ∨ b = 34
    · rw [if_pos h6] at h4 ⊢
      cases hq : quoteL b r with
      | none => simp [hq] at h4
      | some m => simp [addL]; omega
    · rw [if_neg h6]
      simp [he, addL]

theorem eolL_le (r : List UInt8) : eolL r ≤ r.length := (List.takeWhile_prefix _).length_le

/-- what stands next is not empty, and ends in time -/
theorem stepL_len (b : UInt8) (r : List UInt8) : (∀ n, stepL b r = .gap n → 1 ≤ n ∧ n ≤ r.length + 1) ∧ (∀ k n, stepL b r = .tok k n → 1 ≤ n ∧ n ≤ r.length + 1 ∧ k < 4) ∧ (∀ n, stepL b r = .bad n → n < r.length + 1) := by
  unfold stepL
  by_cases h1 : b = 32 ∨ b = 9
  · rw [if_pos h1]; simp
  rw [if_neg h1]
  by_cases h2 : [92, 10].isPrefixOf (b :: r) = true
  · rw [if_pos h2]
    have := (List.isPrefixOf_iff_prefix.1 h2).length_le
    simp at this ⊢; omega
  rw [if_neg h2]
  by_cases h3 : b = 35
  · rw [if_pos h3]
    have := eolL_le (b :: r)
    have : 1 ≤ eolL (b :: r) := by subst h3; simp [eolL, List.takeWhile_cons]
    simp at *; omega
  rw [if_neg h3]
  by_cases h4 : b = 10
  · rw [if_pos h4]; simp
  rw [if_neg h4]
  cases ho : opIx (b :: r) with
  | some i =>
    obtain ⟨_, _, _, g1, g2, g3⟩ := opIx_len ho
    simp at g2 ⊢
    omega
  | none =>
    have hl := wordL_le (b :: r).length (b :: r) (Nat.le_refl _)
    have hp := wordL_pos h1 h4 ho
    rcases hw : wordL (b :: r) with ⟨n, ok⟩
    rw [hw] at hl hp
    cases ok with
    | false => simp at hl ⊢; omega
    | true =>
      simp at hl hp ⊢
      refine ⟨hp, hl, ?_⟩
      unfold kindL; split <;> omega

/-- the tokens from a place on; where what is wrong begins -/
def cutL : List UInt8 → Nat → List Tok × Option Nat
  | [], _ => ([], none)
  | b :: r, p =>
    match stepL b r with
    | .gap n => cutL (r.drop (n - 1)) (p + n)
    | .tok k n =>
      let x := cutL (r.drop (n - 1)) (p + n)
      (⟨k, (b :: r).take n, p⟩ :: x.1, x.2)
    | .bad n => ([], some (p + n))
termination_by l => l.length
decreasing_by all_goals simp <;> omega

/-- where a NUL stands; else the length -/
def zeroL (l : List UInt8) : Nat := (l.takeWhile (· ≠ 0)).length

/-- P1.1 -/
def tokL (l : List UInt8) : List Tok × Nat × Nat :=
  if l.length > 16384 then ([], 0, 40)
  else match cutL l 0 with
    | (_, some e) => ([], min e (zeroL l), 63)
    | (ts, none) => if zeroL l < l.length then ([], zeroL l, 63) else (ts, 0, 0)

end Go.Lx
