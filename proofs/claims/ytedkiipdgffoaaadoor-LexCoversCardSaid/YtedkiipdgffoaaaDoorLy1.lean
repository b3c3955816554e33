/- Plain laws about tokens: one script behind another; what lies between tokens; tokens put together again. Plain laws about tokens: what lies between them; put together again, a blank behind each, they are cut the same. -/
import Derived.Test.YtedkiipdgffoaaaDoorLy0
namespace Go.Lx

/-- the last byte is no backslash -/
def NB (l : List UInt8) : Prop := l.getLast? ≠ some 92

theorem NB.nil : NB [] := by simp [NB]
theorem NB.tail {b : UInt8} {r : List UInt8} (h : NB (b :: r)) : NB r := by
  unfold NB at *
  cases r with
  | nil => simp
  | cons c r => simpa [List.getLast?_cons_cons] using h
theorem NB.drop {l : List UInt8} (h : NB l) : ∀ n, NB (l.drop n) := by
  intro n
  induction n generalizing l with
  | zero => simpa using h
  | succ n ih =>
    cases l with
    | nil => simpa using h
    | cons b r => exact ih h.tail
theorem NB.one {b : UInt8} (h : NB [b]) : b ≠ 92 := by
  rintro rfl
  exact h rfl

theorem quoteL_app (q : UInt8) (u : List UInt8) : ∀ (n : Nat) (r : List UInt8), r.length ≤ n → ∀ m, quoteL q r = some m → quoteL q (r ++ u) = some m
  | n, [], _, m, h => by simp [quoteL] at h
  | 0, b :: r, hn, m, h => by simp at hn
  | n + 1, b :: r, hn, m, h => by
    simp only [List.length_cons] at hn
    rw [List.cons_append, quoteL]
    rw [quoteL] at h
    by_cases h1 : b = q
    · rw [if_pos h1] at h ⊢; exact h
    · rw [if_neg h1] at h ⊢
      by_cases h2 : q = 34 ∧ b = 92
      · rw [if_pos h2] at h ⊢
        cases r with
        | nil => simp at h
        | cons c r' =>
          simp only [List.cons_append, List.drop_succ_cons, List.drop_zero, reduceCtorEq, if_false, Option.map_eq_some_iff] at h ⊢
          obtain ⟨k, hk, rfl⟩ := h
          simp only [List.length_cons] at hn
          exact ⟨k, quoteL_app q u n r' (by omega) k hk, rfl⟩
      · rw [if_neg h2] at h ⊢
        simp only [Option.map_eq_some_iff] at h ⊢
        obtain ⟨k, hk, rfl⟩ := h
        exact ⟨k, quoteL_app q u n r (by omega) k hk, rfl⟩

/-- a quote's end, where what is behind it is cut off -/
theorem quoteL_take (q : UInt8) : ∀ (n : Nat) (r : List UInt8), r.length ≤ n → ∀ m, quoteL q r = some m → quoteL q (r.take (m + 1)) = some m
  | n, [], _, m, h => by simp [quoteL] at h
  | 0, b :: r, hn, m, h => by simp at hn
  | n + 1, b :: r, hn, m, h => by
    simp only [List.length_cons] at hn
    rw [List.take_succ_cons, quoteL]
    rw [quoteL] at h
    by_cases h1 : b = q
    · rw [if_pos h1] at h ⊢; exact h
    · rw [if_neg h1] at h ⊢
      by_cases h2 : q = 34 ∧ b = 92
      · rw [if_pos h2] at h ⊢
        cases r with
        | nil => simp at h
        | cons c r' =>
          simp only [List.drop_succ_cons, List.drop_zero, reduceCtorEq, if_false, Option.map_eq_some_iff] at h
          obtain ⟨k, hk, rfl⟩ := h
          simp only [List.length_cons] at hn
          have := quoteL_take q n r' (by omega) k hk
          rw [show k + 2 = (k + 1) + 1 from rfl, List.take_succ_cons]
          simp only [List.drop_succ_cons, List.drop_zero, reduceCtorEq, if_false, Option.map_eq_some_iff]
          exact ⟨k, this, rfl⟩
      · rw [if_neg h2] at h ⊢
        simp only [Option.map_eq_some_iff] at h ⊢
        obtain ⟨k, hk, rfl⟩ := h
        exact ⟨k, quoteL_take q n r (by omega) k hk, rfl⟩

/-- a word, its rest put off, or put on -/
theorem wordL_cut (c : UInt8) (hc : endsL c = true) (u : List UInt8) : ∀ (n : Nat) (r : List UInt8), r.length ≤ n → NB r → ∀ m, wordL r = (m, true) → wordL (r.take m ++ c :: u) = (m, true)
  | n, [], _, _, m, h => by
    simp [wordL] at h
    subst h
    have h1 : c ≠ 92 := by rintro rfl; simp [endsL] at hc
    have h2 : ¬ (c = 39 ∨ c = 34) := by rintro (rfl | rfl) <;> simp [endsL] at hc
    rw [List.take_nil, List.nil_append, wordL, if_neg h1, if_neg h2, if_pos hc]
  | 0, b :: r, hn, _, m, h => by simp at hn
  | n + 1, b :: r, hn, hb, m, h => by
    simp only [List.length_cons] at hn
    have k1 : c ≠ 92 := by rintro rfl; simp [endsL] at hc
    have k2 : ¬ (c = 39 ∨ c = 34) := by rintro (rfl | rfl) <;> simp [endsL] at hc
    rw [wordL] at h
    by_cases h1 : b = 92
    · rw [if_pos h1] at h
      cases r with
      | nil => exact absurd h1 hb.one
      | cons d r' =>
        simp only [List.drop_succ_cons, List.drop_zero, reduceCtorEq, if_false, addL, Prod.mk.injEq] at h
        obtain ⟨rfl, h⟩ := h
        simp only [List.length_cons] at hn
        have ih := wordL_cut c hc u n r' (by omega) hb.tail.tail (wordL r').1 (by rw [← h])
        rw [show 2 + (wordL r').1 = (wordL r').1 + 1 + 1 by omega, List.take_succ_cons, List.take_succ_cons, List.cons_append, List.cons_append, wordL, if_pos h1]
        simp only [List.drop_succ_cons, List.drop_zero, reduceCtorEq, if_false, ih, addL]
        congr 1; omega
    · rw [if_neg h1] at h
      by_cases h2 : b = 39 ∨ b = 34
      · rw [if_pos h2] at h
        cases hq : quoteL b r with
        | none => rw [hq] at h; simp at h
        | some k =>
          rw [hq] at h
          simp only [addL, Prod.mk.injEq] at h
          obtain ⟨rfl, h⟩ := h
          have hk := quoteL_lt b r.length r (Nat.le_refl _) k hq
          have ih := wordL_cut c hc u n (r.drop (k + 1)) (by simp; omega) (hb.tail.drop _) (wordL (r.drop (k + 1))).1 (by rw [← h])
          generalize hw : (wordL (r.drop (k + 1))).1 = w at ih
          rw [show k + 2 + w = (k + 1 + w) + 1 by omega, List.take_succ_cons, List.cons_append, wordL, if_neg h1, if_pos h2, List.take_add, List.append_assoc]
          rw [quoteL_app b _ _ _ (Nat.le_refl _) k (quoteL_take b r.length r (Nat.le_refl _) k hq)]
          simp only
          have hl : (r.take (k + 1)).length = k + 1 := by rw [List.length_take]; omega
          rw [List.drop_append, hl, Nat.sub_self, List.drop_zero, List.drop_eq_nil_of_le (by omega), List.nil_append, ih]
          simp only [addL]
          congr 1; omega
      · rw [if_neg h2] at h
        by_cases h3 : endsL b = true
        · rw [if_pos h3] at h
          simp only [Prod.mk.injEq, and_true] at h
          subst h
          rw [List.take_zero, List.nil_append, wordL, if_neg k1, if_neg k2, if_pos hc]
        · rw [if_neg h3] at h
          simp only [addL, Prod.mk.injEq] at h
          obtain ⟨rfl, h⟩ := h
          have ih := wordL_cut c hc u n r (by omega) hb.tail (wordL r).1 (by rw [← h])
          rw [Nat.add_comm 1, List.take_succ_cons, List.cons_append, wordL, if_neg h1, if_neg h2, if_neg h3, ih]
          simp only [addL]
          congr 1; omega

theorem wordL_app (c : UInt8) (hc : endsL c = true) (u : List UInt8) : ∀ (n : Nat) (r : List UInt8), r.length ≤ n → NB r → ∀ m, wordL r = (m, true) → wordL (r ++ c :: u) = (m, true)
  | n, [], _, _, m, h => wordL_cut c hc u n [] (by simp) NB.nil m h ▸ by
    simp [wordL] at h
    subst h
    simp
  | 0, b :: r, hn, _, m, h => by simp at hn
  | n + 1, b :: r, hn, hb, m, h => by
    simp only [List.length_cons] at hn
    rw [wordL] at h
    rw [List.cons_append, wordL]
    by_cases h1 : b = 92
    · rw [if_pos h1] at h ⊢
      cases r with
      | nil => exact absurd h1 hb.one
      | cons d r' =>
        simp only [List.length_cons] at hn
        simp only [List.cons_append, List.drop_succ_cons, List.drop_zero, reduceCtorEq, if_false, addL, Prod.mk.injEq] at h ⊢
        obtain ⟨rfl, h⟩ := h
        have ih := wordL_app c hc u n r' (by omega) hb.tail.tail (wordL r').1 (by rw [← h])
        rw [ih]; simp
    · rw [if_neg h1] at h ⊢
      by_cases h2 : b = 39 ∨ b = 34
      · rw [if_pos h2] at h ⊢
        cases hq : quoteL b r with
        | none => rw [hq] at h; simp at h
        | some k =>
          rw [hq] at h
          rw [quoteL_app b _ _ _ (Nat.le_refl _) k hq]
          have hk := quoteL_lt b r.length r (Nat.le_refl _) k hq
          simp only [addL, Prod.mk.injEq] at h ⊢
          obtain ⟨rfl, h⟩ := h
          have ih := wordL_app c hc u n (r.drop (k + 1)) (by simp; omega) (hb.tail.drop _) (wordL (r.drop (k + 1))).1 (by rw [← h])
          rw [List.drop_append_of_le_length (by omega), ih]; simp
      · rw [if_neg h2] at h ⊢
        by_cases h3 : endsL b = true
        · rw [if_pos h3] at h ⊢; exact h
        · rw [if_neg h3] at h ⊢
          simp only [addL, Prod.mk.injEq] at h ⊢
          obtain ⟨rfl, h⟩ := h
          have ih := wordL_app c hc u n r (by omega) hb.tail (wordL r).1 (by rw [← h])
          rw [ih]; simp

/-- what is ahead of a byte that no operator has is told alone -/
theorem opIx_app (c : UInt8) (hc : c = 10 ∨ c = 32) (b : UInt8) (r u : List UInt8) : opIx (b :: r ++ c :: u) = opIx (b :: r) := by
  cases r with
  | cons d r => simp [opIx, opsL, List.findIdx?_cons, List.isPrefixOf]
  | nil => rcases hc with rfl | rfl <;> simp [opIx, opsL, List.findIdx?_cons, List.isPrefixOf]

theorem opTx_app (c : UInt8) (hc : c = 10 ∨ c = 32) (b : UInt8) (r u : List UInt8) : opTx (b :: r ++ c :: u) = opTx (b :: r) := by
  unfold opTx; rw [opIx_app c hc]

theorem eolL_app (b : UInt8) (r u : List UInt8) : eolL (b :: r ++ 10 :: u) = eolL (b :: r) := by
  unfold eolL
  rw [List.takeWhile_append]
  split
  · rename_i h
    rw [List.takeWhile_cons_of_neg (by decide), List.append_nil, h]
  · rfl

/-- a step, with a line's end and more behind the script -/
theorem stepL_app (b : UInt8) (r u : List UInt8) (hb : NB (b :: r)) (hs : ∀ n, stepL b r ≠ .bad n) : stepL b (r ++ 10 :: u) = stepL b r := by
  unfold stepL at hs ⊢
  by_cases h1 : b = 32 ∨ b = 9
  · rw [if_pos h1, if_pos h1]
  rw [if_neg h1] at hs
  rw [if_neg h1, if_neg h1]
  have hp : [92, 10].isPrefixOf (b :: (r ++ 10 :: u)) = [92, 10].isPrefixOf (b :: r) := by
    cases r with
    | cons d r => simp [List.isPrefixOf]
    | nil =>
      have := hb.one
      simp [List.isPrefixOf, Ne.symm this]
  rw [hp]
  by_cases h2 : [92, 10].isPrefixOf (b :: r) = true
  · rw [if_pos h2, if_pos h2]
  rw [if_neg h2] at hs
  rw [if_neg h2, if_neg h2, ← List.cons_append, eolL_app]
  by_cases h3 : b = 35
  · rw [if_pos h3, if_pos h3]
  rw [if_neg h3] at hs
  rw [if_neg h3, if_neg h3]
  by_cases h4 : b = 10
  · rw [if_pos h4, if_pos h4]
  rw [if_neg h4] at hs
  rw [if_neg h4, if_neg h4, opIx_app 10 (.inl rfl), opTx_app 10 (.inl rfl)]
  cases ho : opIx (b :: r) with
  | some i => rfl
  | none =>
    rw [ho] at hs
    simp only at hs ⊢
    rcases hw : wordL (b :: r) with ⟨n, ok⟩
    rw [hw] at hs
    cases ok with
    | false => exact absurd rfl (hs n)
    | true =>
      have hl := (wordL_le (b :: r).length (b :: r) (Nat.le_refl _)).1
      rw [hw] at hl
      rw [wordL_app 10 (by decide) u _ _ (Nat.le_refl _) hb n hw]
      simp only
      rw [List.take_append_of_le_length hl]

theorem cutL_cons (b : UInt8) (r : List UInt8) (p : Nat) : cutL (b :: r) p = match stepL b r with
    | .gap n => cutL (r.drop (n - 1)) (p + n)
    | .tok k n => (⟨k, (b :: r).take n, p⟩ :: (cutL (r.drop (n - 1)) (p + n)).1, (cutL (r.drop (n - 1)) (p + n)).2)
    | .bad n => ([], some (p + n)) := by
  rw [cutL]
  cases stepL b r <;> rfl

/-- a script, a line's end, and another -/
theorem cutL_app (u : List UInt8) : ∀ (n : Nat) (r : List UInt8), r.length ≤ n → NB r → ∀ p, (cutL r p).2 = none → cutL (r ++ 10 :: u) p = ((cutL r p).1 ++ (cutL (10 :: u) (p + r.length)).1, (cutL (10 :: u) (p + r.length)).2)
  | n, [], _, _, p, h => by simp [cutL]
  | 0, b :: r, hn, _, p, h => by simp at hn
  | n + 1, b :: r, hn, hb, p, h => by
    simp only [List.length_cons] at hn
    obtain ⟨l1, l2, l3⟩ := stepL_len b r
    have hnb : ∀ m, stepL b r ≠ .bad m := fun m hm => by rw [cutL_cons, hm] at h; simp at h
    have hsa := stepL_app b r u hb hnb
    rw [cutL_cons] at h
    rw [List.cons_append, cutL_cons, cutL_cons, hsa]
    cases hs : stepL b r with
    | bad m => exact absurd hs (hnb m)
    | gap m =>
      have hm := l1 m hs
      rw [hs] at h
      simp only at h ⊢
      rw [List.drop_append_of_le_length (by omega), cutL_app u n (r.drop (m - 1)) (by simp; omega) (hb.tail.drop _) _ h]
      have : p + m + (r.drop (m - 1)).length = p + (b :: r).length := by simp; omega
      rw [this]
    | tok k m =>
      have hm := l2 k m hs
      rw [hs] at h
      simp only at h ⊢
      rw [List.drop_append_of_le_length (by omega), cutL_app u n (r.drop (m - 1)) (by simp; omega) (hb.tail.drop _) _ h]
      have : p + m + (r.drop (m - 1)).length = p + (b :: r).length := by simp; omega
      have ht : List.take m (b :: (r ++ 10 :: u)) = List.take m (b :: r) := by
        rw [← List.cons_append, List.take_append_of_le_length (by simp; omega)]
      rw [this, ht]
      rfl

def Tok.up (q : Nat) (x : Tok) : Tok := ⟨x.k, x.t, x.p + q⟩

/-- the places, further on -/
theorem cutL_up (q : Nat) : ∀ (n : Nat) (r : List UInt8), r.length ≤ n → ∀ p, cutL r (p + q) = ((cutL r p).1.map (Tok.up q), (cutL r p).2.map (· + q))
  | n, [], _, p => by simp [cutL]
  | 0, b :: r, hn, p => by simp at hn
  | n + 1, b :: r, hn, p => by
    simp only [List.length_cons] at hn
    rw [cutL_cons, cutL_cons]
    cases hs : stepL b r with
    | bad m => simp; omega
    | gap m =>
      simp only
      rw [show p + q + m = (p + m) + q by omega, cutL_up q n _ (by simp; omega)]
    | tok k m =>
      simp only
      rw [show p + q + m = (p + m) + q by omega, cutL_up q n _ (by simp; omega)]
      rfl

theorem cutL_nl (u : List UInt8) (p : Nat) : cutL (10 :: u) p = (⟨1, [10], p⟩ :: (cutL u (p + 1)).1, (cutL u (p + 1)).2) := by
  have : stepL 10 u = .tok 1 1 := by
    unfold stepL
    simp [List.isPrefixOf]
  rw [cutL_cons, this]
  rfl

theorem zeroL_all {l : List UInt8} (h : ¬ zeroL l < l.length) : ∀ x ∈ l, x ≠ 0 := by
  have h1 : l.takeWhile (· ≠ 0) = l := (List.takeWhile_prefix _).eq_of_length_le (by unfold zeroL at h; omega)
  intro x hx
  have h2 := List.all_eq_true.1 (List.all_takeWhile (p := fun x : UInt8 => decide (x ≠ 0)) (l := l)) x (by rw [h1]; exact hx)
  simpa using h2
theorem zeroL_app {l m : List UInt8} (h : ∀ x ∈ l, x ≠ 0) : zeroL (l ++ m) = l.length + zeroL m := by
  unfold zeroL
  rw [List.takeWhile_append_of_pos (by simpa using h)]
  simp

/-- LexTwo, told plainly -/
theorem two (s t : List UInt8) (hs : s.length ≤ 8000) (ht : t.length ≤ 8000) (ho : (tokL s).2.2 = 0) (hb : NB s) :
    ((tokL t).2.2 ≠ 0 → (tokL (s ++ 10 :: t)).2.2 = (tokL t).2.2 ∧ (tokL (s ++ 10 :: t)).2.1 = s.length + 1 + (tokL t).2.1) ∧
    ((tokL t).2.2 = 0 → (tokL (s ++ 10 :: t)).2.2 = 0 ∧ (tokL (s ++ 10 :: t)).1 = (tokL s).1 ++ ⟨1, [10], s.length⟩ :: (tokL t).1.map (Tok.up (s.length + 1))) := by
  have hlen : (s ++ 10 :: t).length = s.length + 1 + t.length := by simp; omega
  have e1 : ∀ l : List UInt8, l.length ≤ 16384 → tokL l = match cutL l 0 with
    | (_, some e) => ([], min e (zeroL l), 63)
    | (ts, none) => if zeroL l < l.length then ([], zeroL l, 63) else (ts, 0, 0) := fun l h => by
    unfold tokL; rw [if_neg (by omega)]; rfl
  rw [e1 s (by omega)] at ho
  rw [e1 s (by omega), e1 t (by omega), e1 (s ++ 10 :: t) (by omega)]
  have hcs : (cutL s 0).2 = none ∧ ¬ zeroL s < s.length := by
    rcases hc : cutL s 0 with ⟨ts, o⟩
    rw [hc] at ho
    cases o with
    | some e => simp at ho
    | none =>
      simp only at ho
      by_cases hz : zeroL s < s.length
      · rw [if_pos hz] at ho; simp at ho
      · exact ⟨rfl, hz⟩
  obtain ⟨hc2, hz⟩ := hcs
  have hz0 := zeroL_all hz
  have hza : zeroL (s ++ 10 :: t) = s.length + 1 + zeroL t := by
    rw [zeroL_app hz0]
    unfold zeroL
    rw [List.takeWhile_cons_of_pos (by decide)]
    simp; omega
  have hcut := cutL_app t _ s (Nat.le_refl _) hb 0 hc2
  rw [Nat.zero_add, cutL_nl] at hcut
  have hup := cutL_up (s.length + 1) _ t (Nat.le_refl _) 0
  rw [Nat.zero_add] at hup
  rw [hup] at hcut
  rw [hcut, hza, hlen]
  rcases hcs : cutL s 0 with ⟨as, o⟩
  rw [hcs] at hc2
  simp only at hc2
  subst hc2
  rcases hct : cutL t 0 with ⟨ts, o⟩
  simp only
  rw [if_neg hz]
  cases o with
  | some e =>
    simp only [Option.map_some]
    refine ⟨fun _ => ⟨trivial, by show min _ _ = _; omega⟩, fun h => by simp at h⟩
  | none =>
    simp only [Option.map_none]
    by_cases hzt : zeroL t < t.length
    · rw [if_pos hzt, if_pos (by omega)]
      exact ⟨fun _ => ⟨rfl, rfl⟩, fun h => by simp at h⟩
    · rw [if_neg hzt, if_neg (by omega)]
      exact ⟨fun h => absurd rfl h, fun _ => ⟨rfl, rfl⟩⟩
end Go.Lx

namespace Go.Lx

/-- blanks, remarks, and backslashes with a line's end alone -/
def idleL : List UInt8 → Bool
  | [] => true
  | b :: r =>
    if b = 32 ∨ b = 9 then idleL r
    else if [92, 10].isPrefixOf (b :: r) = true then idleL (r.drop 1)
    else if b = 35 then idleL (r.drop (eolL (b :: r) - 1))
    else false
termination_by l => l.length
decreasing_by all_goals simp <;> omega

theorem eolL_take (m : Nat) (l : List UInt8) (h : eolL l ≤ m) : eolL (l.take m) = eolL l := by
  unfold eolL at *
  induction l generalizing m with
  | nil => simp
  | cons a l ih =>
    by_cases ha : a = 10
    · subst ha
      cases m with
      | zero => simp
      | succ m => simp
    · rw [List.takeWhile_cons_of_pos (by simpa using ha)] at h ⊢
      cases m with
      | zero => simp at h
      | succ m =>
        rw [List.take_succ_cons, List.takeWhile_cons_of_pos (by simpa using ha)]
        simp only [List.length_cons] at h ⊢
        rw [ih m (by omega)]

theorem gap_idle {b : UInt8} {r : List UInt8} {n : Nat} (h : stepL b r = .gap n) (m : Nat) (hm : n ≤ m) (hi : idleL ((b :: r).drop n |>.take (m - n)) = true) : idleL ((b :: r).take m) = true := by
  have hn := (stepL_len b r).1 n h
  obtain ⟨k, rfl⟩ : ∃ k, m = k + 1 := ⟨m - 1, by omega⟩
  rw [List.take_succ_cons, idleL]
  unfold stepL at h
  by_cases h1 : b = 32 ∨ b = 9
  · rw [if_pos h1] at h ⊢
    simp only [Stp.gap.injEq] at h
    subst h
    simpa using hi
  rw [if_neg h1] at h ⊢
  by_cases h2 : [92, 10].isPrefixOf (b :: r) = true
  · rw [if_pos h2] at h
    simp only [Stp.gap.injEq] at h
    subst h
    cases r with
    | nil => simp [List.isPrefixOf] at h2
    | cons d r =>
      obtain ⟨j, rfl⟩ : ∃ j, k = j + 1 := ⟨k - 1, by omega⟩
      rw [List.take_succ_cons]
      rw [if_pos (by simpa [List.isPrefixOf] using h2)]
      simpa using hi
  rw [if_neg h2] at h
  by_cases h3 : b = 35
  · rw [if_pos h3] at h
    simp only [Stp.gap.injEq] at h
    have hp : ¬ [92, 10].isPrefixOf (b :: r.take k) = true := by subst h3; simp [List.isPrefixOf]
    rw [if_neg hp, if_pos h3, ← List.take_succ_cons, eolL_take _ _ (by omega), h]
    rw [show (b :: r).drop n = r.drop (n - 1) by obtain ⟨j, rfl⟩ : ∃ j, n = j + 1 := ⟨n - 1, by omega⟩; rfl] at hi
    rw [List.drop_take, show k - (n - 1) = k + 1 - n by omega]
    exact hi
  rw [if_neg h3] at h
  exfalso
  split at h
  · cases h
  · split at h
    · cases h
    · split at h <;> cases h

/-- a token, and what stands ahead of it -/
def Heads (r : List UInt8) (p : Nat) (x : Tok) (xs : List Tok) : Prop :=
  p ≤ x.p ∧ 1 ≤ x.t.length ∧ x.p - p + x.t.length ≤ r.length ∧ x.t = (r.drop (x.p - p)).take x.t.length ∧ idleL (r.take (x.p - p)) = true ∧
    cutL (r.drop (x.p - p + x.t.length)) (x.p + x.t.length) = (xs, none) ∧ ∃ b s, r.drop (x.p - p) = b :: s ∧ stepL b s = .tok x.k x.t.length

theorem cutL_heads : ∀ (n : Nat) (r : List UInt8), r.length ≤ n → ∀ p, (∀ x xs, cutL r p = (x :: xs, none) → Heads r p x xs) ∧ (cutL r p = ([], none) → idleL r = true)
  | n, [], _, p => by simp [cutL, idleL]
  | 0, b :: r, hn, p => by simp at hn
  | n + 1, b :: r, hn, p => by
    simp only [List.length_cons] at hn
    obtain ⟨l1, l2, l3⟩ := stepL_len b r
    rw [cutL_cons]
    cases hs : stepL b r with
    | bad m => simp
    | gap m =>
      have hm := l1 m hs
      obtain ⟨i1, i2⟩ := cutL_heads n (r.drop (m - 1)) (by simp; omega) (p + m)
      have hd : ∀ j, r.drop (m - 1 + j) = (b :: r).drop (m + j) := fun j => by
        obtain ⟨i, rfl⟩ : ∃ i, m = i + 1 := ⟨m - 1, by omega⟩
        rw [show i + 1 + j = (i + j) + 1 by omega, List.drop_succ_cons, Nat.add_sub_cancel]
      have hd0 : r.drop (m - 1) = (b :: r).drop m := hd 0
      simp only
      refine ⟨fun x xs h => ?_, fun h => ?_⟩
      · obtain ⟨a1, a2, a3, a4, a5, a6, c, s, a7, a8⟩ := i1 x xs h
        have e : x.p - p = m + (x.p - (p + m)) := by omega
        have ed : ∀ j, (r.drop (m - 1)).drop (x.p - (p + m) + j) = (b :: r).drop (x.p - p + j) := fun j => by
          rw [List.drop_drop, hd]; congr 1; omega
        have ed0 : (r.drop (m - 1)).drop (x.p - (p + m)) = (b :: r).drop (x.p - p) := ed 0
        refine ⟨by omega, a2, ?_, ?_, ?_, ?_, c, s, ?_, a8⟩
        · simp only [List.length_drop, List.length_cons] at a3 ⊢; omega
        · rw [← ed0]; exact a4
        · refine gap_idle hs _ (by omega) ?_
          rw [← hd0, show x.p - p - m = x.p - (p + m) by omega]
          exact a5
        · rw [← ed]; exact a6
        · rw [← ed0]; exact a7
      · have := gap_idle hs (r.length + 1) (by omega) (by rw [← hd0, List.take_of_length_le (by simp; omega)]; exact i2 h)
        rwa [List.take_of_length_le (by simp)] at this
    | tok k m =>
      have hm := l2 k m hs
      simp only
      refine ⟨fun x xs h => ?_, fun h => by simp at h⟩
      simp only [Prod.mk.injEq, List.cons.injEq] at h
      obtain ⟨⟨rfl, h1⟩, h2⟩ := h
      have ht : (List.take m (b :: r)).length = m := by simp; omega
      have hd0 : r.drop (m - 1) = (b :: r).drop m := by
        obtain ⟨i, rfl⟩ : ∃ i, m = i + 1 := ⟨m - 1, by omega⟩
        rfl
      refine ⟨Nat.le_refl _, by simp only [ht]; omega, by simp only [ht, List.length_cons]; omega, ?_, ?_, ?_, b, r, by simp, by simp only [ht]; exact hs⟩
      · simp only [ht, Nat.sub_self, List.drop_zero]
      · simp only [Nat.sub_self, List.take_zero]; simp [idleL]
      · simp only [ht, Nat.sub_self, Nat.zero_add]
        rw [← hd0, ← h1, ← h2]

theorem opIx_again (i : Nat) (hi : i < 12) (u : List UInt8) : opIx (opsL.getD i [] ++ 32 :: u) = some i := by
  have hc : i = 0 ∨ i = 1 ∨ i = 2 ∨ i = 3 ∨ i = 4 ∨ i = 5 ∨ i = 6 ∨ i = 7 ∨ i = 8 ∨ i = 9 ∨ i = 10 ∨ i = 11 := by omega
  rcases hc with rfl | rfl | rfl | rfl | rfl | rfl | rfl | rfl | rfl | rfl | rfl | rfl <;> simp [opIx, opsL, List.findIdx?_cons, List.isPrefixOf]

/-- the same step, with a blank behind the token -/
theorem step_again {b : UInt8} {r : List UInt8} {k n : Nat} (h : stepL b r = .tok k n) (hb : NB (b :: r)) (u : List UInt8) :
    ∃ t, (b :: r).take n = b :: t ∧ stepL b (t ++ 32 :: u) = .tok k n := by
  obtain ⟨hn1, hn2, _⟩ := (stepL_len b r).2.1 k n h
  obtain ⟨m, rfl⟩ : ∃ m, n = m + 1 := ⟨n - 1, by omega⟩
  refine ⟨r.take m, by rw [List.take_succ_cons], ?_⟩
  unfold stepL at h ⊢
  by_cases h1 : b = 32 ∨ b = 9
  · rw [if_pos h1] at h; cases h
  rw [if_neg h1] at h ⊢
  by_cases h2 : [92, 10].isPrefixOf (b :: r) = true
  · rw [if_pos h2] at h; cases h
  rw [if_neg h2] at h
  have h2' : ¬ [92, 10].isPrefixOf (b :: (r.take m ++ 32 :: u)) = true := by
    cases m with
    | zero => simp [List.isPrefixOf]
    | succ m =>
      cases r with
      | nil => simp at hn2
      | cons d r => simpa [List.isPrefixOf] using h2
  rw [if_neg h2']
  by_cases h3 : b = 35
  · rw [if_pos h3] at h; cases h
  rw [if_neg h3] at h ⊢
  by_cases h4 : b = 10
  · rw [if_pos h4] at h ⊢
    exact h
  rw [if_neg h4] at h ⊢
  cases ho : opIx (b :: r) with
  | some i =>
    rw [ho] at h
    simp only [Stp.tok.injEq] at h
    obtain ⟨rfl, hl⟩ := h
    obtain ⟨hi, ht, hp, _, _, _⟩ := opIx_len ho
    have hte : b :: r.take m = opsL.getD i [] := by
      rw [← List.take_succ_cons, ← hl, ← ht]
      exact (List.prefix_iff_eq_take.1 (List.isPrefixOf_iff_prefix.1 hp)).symm
    have hop : opIx (b :: (r.take m ++ 32 :: u)) = some i := by
      rw [← List.cons_append, hte, opIx_again i hi u]
    rw [hop]
    simp only
    have : opTx (b :: (r.take m ++ 32 :: u)) = opsL.getD i [] := by simp [opTx, hop]
    rw [this, ← ht, hl]
  | none =>
    rw [ho] at h
    simp only at h
    rcases hw : wordL (b :: r) with ⟨w, ok⟩
    rw [hw] at h
    cases ok with
    | false => cases h
    | true =>
      simp only [Stp.tok.injEq] at h
      obtain ⟨hk, rfl⟩ := h
      have hno : opIx (b :: (r.take m ++ 32 :: u)) = none := by
        refine opIx_none ?_
        cases he : [59, 38, 124, 60, 62, 40, 41].elem b with
        | false => rfl
        | true =>
          obtain ⟨i, hi⟩ := opIx_some (r := r) he
          rw [ho] at hi; cases hi
      have hww := wordL_cut 32 (by decide) u _ _ (Nat.le_refl _) hb _ hw
      rw [List.take_succ_cons, List.cons_append] at hww
      rw [hno, hww]
      simp only [Stp.tok.injEq, and_true]
      rw [← hk, List.take_succ_cons, List.take_succ_cons, List.take_append_of_le_length (by simp; omega), List.take_take, Nat.min_self]

def againL (ts : List Tok) : List UInt8 := ts.flatMap fun x => x.t ++ [32]

theorem again_cut : ∀ (ts : List Tok) (r : List UInt8) (p : Nat), cutL r p = (ts, none) → NB r → (∀ q, ∃ us, cutL (againL ts) q = (us, none) ∧ us.map (fun x => (x.k, x.t)) = ts.map (fun x => (x.k, x.t))) ∧ (againL ts).length ≤ 2 * r.length ∧ ((∀ x ∈ r, x ≠ 0) → ∀ x ∈ againL ts, x ≠ 0)
  | [], r, p, _, _ => ⟨fun q => ⟨[], by simp [againL, cutL], rfl⟩, by simp [againL], fun _ => by simp [againL]⟩
  | x :: xs, r, p, h, hb => by
    obtain ⟨a1, a2, a3, a4, a5, a6, b, s, a7, a8⟩ := (cutL_heads _ r (Nat.le_refl _) p).1 x xs h
    obtain ⟨i1, i2, i3⟩ := again_cut xs _ _ a6 (hb.drop _)
    have e : againL (x :: xs) = x.t ++ 32 :: againL xs := by simp [againL]
    rw [a7] at a4
    obtain ⟨t, ht, hst⟩ := step_again a8 (a7 ▸ hb.drop _) (againL xs)
    rw [← a4] at ht
    have htl : t.length = x.t.length - 1 := by rw [ht]; simp
    refine ⟨fun q => ?_, ?_, fun hz y hy => ?_⟩
    · obtain ⟨us, h1, h2⟩ := i1 (q + x.t.length + 1)
      refine ⟨⟨x.k, x.t, q⟩ :: us, ?_, by simp [h2]⟩
      have hsp : cutL (32 :: againL xs) (q + x.t.length) = (us, none) := by
        have hg : stepL 32 (againL xs) = .gap 1 := by simp [stepL]
        rw [cutL_cons, hg]
        simpa using h1
      have d1 : (t ++ 32 :: againL xs).drop (x.t.length - 1) = 32 :: againL xs := by
        rw [← htl, List.drop_append, Nat.sub_self, List.drop_of_length_le (Nat.le_refl _)]; rfl
      have d2 : (b :: (t ++ 32 :: againL xs)).take x.t.length = x.t := by
        rw [← List.cons_append, ← ht, List.take_append_of_le_length (Nat.le_refl _), List.take_length]
      have e2 : againL (x :: xs) = b :: (t ++ 32 :: againL xs) := by rw [e, ht]; rfl
      rw [e2, cutL_cons, hst]
      simp only
      rw [d1, d2, hsp]
    · rw [e]
      simp only [List.length_append, List.length_cons, List.length_drop] at i2 ⊢
      omega
    · rw [e] at hy
      rcases List.mem_append.1 hy with hy | hy
      · rw [a4, ← a7] at hy
        exact hz y (List.mem_of_mem_drop (List.mem_of_mem_take hy))
      · rcases List.mem_cons.1 hy with rfl | hy
        · decide
        · exact i3 (fun z hz' => hz z (List.mem_of_mem_drop hz')) y hy

/-- LexCovers, told plainly -/
theorem covers (s : List UInt8) (hs : s.length ≤ 8000) (ho : (tokL s).2.2 = 0) : cutL s 0 = ((tokL s).1, none) ∧
    (NB s → (againL (tokL s).1).length ≤ 16384 ∧ (tokL (againL (tokL s).1)).2.2 = 0 ∧ (tokL (againL (tokL s).1)).1.map (fun x => (x.k, x.t)) = (tokL s).1.map (fun x => (x.k, x.t))) := by
  have e1 : ∀ l : List UInt8, l.length ≤ 16384 → tokL l = match cutL l 0 with
    | (_, some e) => ([], min e (zeroL l), 63)
    | (ts, none) => if zeroL l < l.length then ([], zeroL l, 63) else (ts, 0, 0) := fun l h => by
    unfold tokL; rw [if_neg (by omega)]; rfl
  have hs1 := e1 s (by omega)
  rcases hc : cutL s 0 with ⟨ts, o⟩
  rw [hc] at hs1
  cases o with
  | some e => rw [hs1] at ho; simp at ho
  | none =>
    simp only at hs1
    by_cases hz : zeroL s < s.length
    · rw [hs1, if_pos hz] at ho; simp at ho
    · rw [if_neg hz] at hs1
      rw [hs1]
      refine ⟨rfl, fun hb => ?_⟩
      obtain ⟨i1, i2, i3⟩ := again_cut ts s 0 hc hb
      obtain ⟨us, h1, h2⟩ := i1 0
      have hlen : (againL ts).length ≤ 16384 := by omega
      have hz2 : ¬ zeroL (againL ts) < (againL ts).length := by
        have := zeroL_app (l := againL ts) (m := []) (i3 (zeroL_all hz))
        rw [List.append_nil] at this
        omega
      refine ⟨hlen, ?_⟩
      simp only
      rw [e1 _ hlen, h1]
      simp only
      rw [if_neg hz2]
      exact ⟨rfl, h2⟩
end Go.Lx
