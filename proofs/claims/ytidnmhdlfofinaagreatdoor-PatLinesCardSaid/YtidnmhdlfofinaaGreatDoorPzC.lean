/- Lines that tell the facts: plain. The tour goes up: the numbers stand in their order where the places rise. Lines are the same where the facts are, and only there. The plain law of PatLines: lines that are the same tell facts that are the same, and the other way. PatLines, by the program. -/
import Derived.Test.YtidnmhdlfofinaaGreatDoorPzA
namespace Go.Vm
open Go Go.Proofs Go.Pa
def nocol (l : List UInt8) : Prop := ∀ b ∈ l, b ≠ 58
theorem part_uniq {a b u v : List UInt8} (hu : nocol u) (hv : nocol v) (h : a ++ 58 :: u = b ++ 58 :: v) : a = b ∧ u = v := by
  have hrev := congrArg List.reverse h
  simp only [List.reverse_append, List.reverse_cons, List.append_assoc, List.singleton_append] at hrev
  have key : ∀ (u v x y : List UInt8), (∀ b ∈ u, b ≠ 58) → (∀ b ∈ v, b ≠ 58) → u ++ 58 :: x = v ++ 58 :: y → u = v ∧ x = y := by
    intro u
    induction u with
    | nil =>
      intro v x y _ hv h
      cases v with
      | nil => simp at h; exact ⟨rfl, h⟩
      | cons c v =>
        simp at h
        exact absurd h.1.symm (hv c (by simp))
    | cons c u ih =>
      intro v x y hu hv h
      cases v with
      | nil =>
        simp at h
        exact absurd h.1 (hu c (by simp))
      | cons d v =>
        simp at h
        obtain ⟨h1, h2⟩ := ih v x y (fun b hb => hu b (by simp [hb])) (fun b hb => hv b (by simp [hb])) h.2
        exact ⟨by rw [h.1, h1], h2⟩
  obtain ⟨h1, h2⟩ := key _ _ _ _ (fun b hb => hu b (by simpa using hb)) (fun b hb => hv b (by simpa using hb)) hrev
  exact ⟨List.reverse_inj.1 h2, List.reverse_inj.1 h1⟩
theorem esc_cons (b : UInt8) (l : List UInt8) : esc (b :: l) = escB b ++ esc l := by simp [esc]
theorem escB_cases (b : UInt8) : (b = 10 ∧ escB b = [92, 110]) ∨ (b = 92 ∧ escB b = [92, 92]) ∨ (b ≠ 10 ∧ b ≠ 92 ∧ escB b = [b]) := by
  unfold escB
  by_cases h : b = 10
  · exact .inl ⟨h, by rw [if_pos h]⟩
  · by_cases h2 : b = 92
    · exact .inr (.inl ⟨h2, by rw [if_neg h, if_pos h2]⟩)
    · exact .inr (.inr ⟨h, h2, by rw [if_neg h, if_neg h2]⟩)
theorem esc_inj : ∀ (a b : List UInt8), esc a = esc b → a = b
  | [], [], _ => rfl
  | [], b :: y, h => by
    rw [esc_cons] at h
    rcases escB_cases b with ⟨_, e⟩ | ⟨_, e⟩ | ⟨_, _, e⟩ <;> rw [e] at h <;> simp [esc] at h
  | a :: x, [], h => by
    rw [esc_cons] at h
    rcases escB_cases a with ⟨_, e⟩ | ⟨_, e⟩ | ⟨_, _, e⟩ <;> rw [e] at h <;> simp [esc] at h
  | a :: x, b :: y, h => by
    rw [esc_cons, esc_cons] at h
    rcases escB_cases a with ⟨a1, ea⟩ | ⟨a1, ea⟩ | ⟨a1, a2, ea⟩ <;> rcases escB_cases b with ⟨b1, eb⟩ | ⟨b1, eb⟩ | ⟨b1, b2, eb⟩ <;> rw [ea, eb] at h <;> simp at h
    · rw [a1, b1, esc_inj x y h]
    · exact absurd h.1.symm b2
    · rw [a1, b1, esc_inj x y h]
    · exact absurd h.1.symm b2
    · exact absurd h.1 a2
    · exact absurd h.1 a2
    · rw [h.1, esc_inj x y h.2]
def plainN (s : S) : Prop := s.toList ≠ [] ∧ ∀ b ∈ s.toList, b ≠ 47
def flatP (p : List S) : List UInt8 := p.flatMap fun s => 47 :: s.toList
theorem flatP_head (p : List S) : flatP p = [] ∨ ∃ r, flatP p = 47 :: r := by
  cases p with
  | nil => exact .inl rfl
  | cons a p => exact .inr ⟨a.toList ++ flatP p, by simp [flatP]⟩
theorem seg_uniq : ∀ (s t X Y : List UInt8), (∀ b ∈ s, b ≠ 47) → (∀ b ∈ t, b ≠ 47) → (X = [] ∨ ∃ r, X = 47 :: r) → (Y = [] ∨ ∃ r, Y = 47 :: r) → s ++ X = t ++ Y → s = t ∧ X = Y
  | [], [], X, Y, _, _, _, _, h => ⟨rfl, by simpa using h⟩
  | [], c :: t, X, Y, _, ht, hX, _, h => by
    rcases hX with rfl | ⟨r, rfl⟩
    · simp at h
    · simp at h; exact absurd h.1.symm (ht c (by simp))
  | c :: s, [], X, Y, hs, _, _, hY, h => by
    rcases hY with rfl | ⟨r, rfl⟩
    · simp at h
    · simp at h; exact absurd h.1 (hs c (by simp))
  | c :: s, d :: t, X, Y, hs, ht, hX, hY, h => by
    simp at h
    obtain ⟨h1, h2⟩ := seg_uniq s t X Y (fun b hb => hs b (by simp [hb])) (fun b hb => ht b (by simp [hb])) hX hY h.2
    exact ⟨by rw [h.1, h1], h2⟩
theorem flatP_inj : ∀ {p q : List S}, (∀ s ∈ p, plainN s) → (∀ s ∈ q, plainN s) → flatP p = flatP q → p.map S.toList = q.map S.toList
  | [], [], _, _, _ => rfl
  | [], a :: q, _, _, h => by simp [flatP] at h
  | a :: p, [], _, _, h => by simp [flatP] at h
  | a :: p, b :: q, hp, hq, h => by
    have e : ∀ (a : S) (p : List S), flatP (a :: p) = 47 :: (a.toList ++ flatP p) := fun a p => by simp [flatP]
    rw [e, e, List.cons.injEq] at h
    obtain ⟨h1, h2⟩ := seg_uniq _ _ _ _ (hp a (by simp)).2 (hq b (by simp)).2 (flatP_head p) (flatP_head q) h.2
    rw [List.map_cons, List.map_cons, h1, flatP_inj (fun s hs => hp s (by simp [hs])) (fun s hs => hq s (by simp [hs])) h2]
theorem pathB_inj {p q : List S} (hp : ∀ s ∈ p, plainN s) (hq : ∀ s ∈ q, plainN s) (h : pathB p = pathB q) : p.map S.toList = q.map S.toList := by
  cases p with
  | nil =>
    cases q with
    | nil => rfl
    | cons b q =>
      exfalso
      have h2 : ([47] : List UInt8) = flatP (b :: q) := h
      have := (hq b (by simp)).1
      simp [flatP] at h2
      exact this h2.1
  | cons a p =>
    cases q with
    | nil =>
      exfalso
      have h2 : flatP (a :: p) = ([47] : List UInt8) := h
      have := (hp a (by simp)).1
      simp [flatP] at h2
      exact this h2.1
    | cons b q => exact flatP_inj hp hq h
theorem dig_inj {m n : Nat} (hm : m ≤ 60) (hn : n ≤ 60) (h : digB m = digB n) : m = n := by
  have hc : ((List.range 61).all fun m => (List.range 61).all fun n => !(digB m == digB n) || Nat.beq m n) = true := by kernel_rfl
  have h1 := List.all_eq_true.1 (List.all_eq_true.1 hc m (List.mem_range.2 (by omega))) n (List.mem_range.2 (by omega))
  rw [h] at h1
  simp at h1
  exact h1
theorem dig_nocol {m : Nat} (hm : m ≤ 60) : nocol (digB m) := by
  have hc : ((List.range 61).all fun m => (digB m).all fun b => !(b == 58)) = true := by kernel_rfl
  have h1 := List.all_eq_true.1 hc m (List.mem_range.2 (by omega))
  intro b hb
  have := List.all_eq_true.1 h1 b hb
  simpa using this
inductive FKd (f : Fw) : Prop where
  | any (h0 : f.known = false) (h1 : f.kind = 0) (h2 : f.rest = 0) (h3 : f.beside = 0) (h : sayB f = [97, 110, 121])
  | absent (h0 : f.known = true) (h1 : f.kind = 0) (h2 : f.rest = 0) (h3 : f.beside = 0) (h : sayB f = [97, 98, 115, 101, 110, 116])
  | file (h0 : f.known = true) (h1 : f.kind = 1) (h2 : f.rest = 0) (h3 : f.beside = 0) (h : sayB f = [102, 105, 108, 101])
  | link (h0 : f.known = true) (h1 : f.kind = 3) (h2 : f.rest = 0) (h3 : f.beside = 0) (h : sayB f = [108, 105, 110, 107])
  | whole (h0 : f.known = true) (h1 : f.kind = 2) (h2 : f.rest = 1) (h3 : f.beside = 0) (h : sayB f = [100, 105, 114, 32, 119, 104, 111, 108, 101])
  | more (h0 : f.known = true) (h1 : f.kind = 2) (h2 : f.rest = 2) (h3 : 0 ≤ f.beside ∧ f.beside ≤ 60) (h : sayB f = [100, 105, 114, 32, 109, 111, 114, 101, 32] ++ digB f.beside.toNat)
  | dir (h0 : f.known = true) (h1 : f.kind = 2) (h2 : f.rest = 0) (h3 : f.beside = 0) (h : sayB f = [100, 105, 114])
theorem fkd_of {f : Fw} (h : oneB f = true) (hs : f.small) : FKd f := by
  have hn := hs.names
  unfold oneB at h
  cases hh : headB f with
  | false => rw [hh] at h; cases h
  | true =>
    rw [hh] at h
    simp only [headB, Bool.and_eq_true, decide_eq_true_eq] at hh
    obtain ⟨⟨hk, hu⟩, _⟩ := hh
    cases hd : dirB f with
    | true =>
      rw [hd] at h
      simp only [dirB, Bool.and_eq_true, decide_eq_true_eq] at hd
      simp only [cond_true, Bool.and_eq_true] at h
      obtain ⟨_, hr⟩ := h
      unfold restB at hr
      by_cases h2 : f.rest = 2
      · simp only [h2, decide_true, cond_true, Bool.and_eq_true, decide_eq_true_eq] at hr
        exact .more hd.1 hd.2 h2 ⟨hr.1, by omega⟩ (by simp [sayB, hd.1, hd.2, h2])
      · simp only [h2, decide_false, cond_false, Bool.and_eq_true, Bool.or_eq_true, decide_eq_true_eq] at hr
        rcases hr.1 with h0 | h1
        · exact .dir hd.1 hd.2 h0 hr.2 (by simp [sayB, hd.1, hd.2, h0])
        · exact .whole hd.1 hd.2 h1 hr.2 (by simp [sayB, hd.1, hd.2, h1])
    | false =>
      rw [hd] at h
      simp only [cond_true, cond_false, bareB, Bool.and_eq_true, decide_eq_true_eq] at h
      obtain ⟨⟨_, hr⟩, hb⟩ := h
      cases hkn : f.known with
      | false =>
        have h0 : f.kind = 0 := by rw [hkn] at hu; simpa using hu
        exact .any hkn h0 hr hb (by simp [sayB, hkn])
      | true =>
        have h2 : f.kind ≠ 2 := by intro h2; simp [dirB, hkn, h2] at hd
        have : f.kind = 0 ∨ f.kind = 1 ∨ f.kind = 3 := by omega
        rcases this with h0 | h0 | h0
        · exact .absent hkn h0 hr hb (by simp [sayB, hkn, h0])
        · exact .file hkn h0 hr hb (by simp [sayB, hkn, h0])
        · exact .link hkn h0 hr hb (by simp [sayB, hkn, h0])
theorem say_nocol {f : Fw} (h : FKd f) : nocol (sayB f) := by
  cases h with
  | more h0 h1 h2 h3 h =>
    rw [h]
    intro b hb
    rcases List.mem_append.1 hb with hb | hb
    · exact (show ∀ b ∈ ([100, 105, 114, 32, 109, 111, 114, 101, 32] : List UInt8), b ≠ 58 by decide) b hb
    · exact dig_nocol (by omega) b hb
  | any _ _ _ _ h => rw [h]; unfold nocol; decide
  | absent _ _ _ _ h => rw [h]; unfold nocol; decide
  | file _ _ _ _ h => rw [h]; unfold nocol; decide
  | link _ _ _ _ h => rw [h]; unfold nocol; decide
  | whole _ _ _ _ h => rw [h]; unfold nocol; decide
  | dir _ _ _ _ h => rw [h]; unfold nocol; decide
theorem say_inj {f g : Fw} (hf : FKd f) (hg : FKd g) (h : sayB f = sayB g) : f.known = g.known ∧ f.kind = g.kind ∧ f.rest = g.rest ∧ f.beside = g.beside := by
  cases hf <;> cases hg <;> rename_i a0 a1 a2 a3 a b0 b1 b2 b3 b <;> rw [a, b] at h <;> first
    | (exfalso; revert h; simp; done)
    | exact ⟨a0.trans b0.symm, a1.trans b1.symm, a2.trans b2.symm, a3.trans b3.symm⟩
    | (have hd := dig_inj (by omega) (by omega) (List.append_cancel_left h)
       refine ⟨a0.trans b0.symm, a1.trans b1.symm, a2.trans b2.symm, ?_⟩
       omega)
end Go.Vm
namespace Go.Vm
open Go Go.Proofs Go.Pa
theorem lessL_irr : ∀ a : List S, lessL a a = false
  | [] => rfl
  | a :: x => by rw [lessL, same_self, cond_true, lessL_irr x]
theorem lessL_trans : ∀ {a b c : List S}, lessL a b = true → lessL b c = true → lessL a c = true
  | [], [], _, h, _ => by cases h
  | [], _ :: _, [], _, k => by cases k
  | [], _ :: _, _ :: _, _, _ => rfl
  | _ :: _, [], _, h, _ => by cases h
  | _ :: _, _ :: _, [], _, k => by cases k
  | a :: x, b :: y, c :: z, h, k => by
    rw [lessL] at h k ⊢
    cases hab : a.same b with
    | true =>
      rw [hab, cond_true] at h
      cases hbc : b.same c with
      | true =>
        rw [hbc, cond_true] at k
        rw [same_trans hab hbc, cond_true]
        exact lessL_trans h k
      | false =>
        rw [hbc, cond_false] at k
        have h2 := same_less hab k
        rw [less_not_same h2, cond_false, h2]
    | false =>
      rw [hab, cond_false] at h
      cases hbc : b.same c with
      | true =>
        have h2 := less_same h hbc
        rw [less_not_same h2, cond_false, h2]
      | false =>
        rw [hbc, cond_false] at k
        have h2 := less_trans h k
        rw [less_not_same h2, cond_false, h2]
theorem lessL_app : ∀ (p a b : List S), lessL (p ++ a) (p ++ b) = lessL a b
  | [], _, _ => rfl
  | s :: p, a, b => by
    rw [List.cons_append, List.cons_append, lessL, same_self, cond_true, lessL_app p]
theorem lessL_ext (p : List S) (s : S) (r : List S) : lessL p (p ++ s :: r) = true := by
  have := lessL_app p [] (s :: r)
  rw [List.append_nil] at this
  rw [this]; rfl
theorem tour_pre {l : List Fw} : ∀ (d n : Nat) (p : List S) (y : Nat × List S), y ∈ tour l d n p → ∃ r, y.2 = p ++ r
  | 0, n, p, y, h => by simp [tour] at h
  | d + 1, n, p, y, h => by
    simp only [tour, List.mem_cons] at h
    rcases h with rfl | h
    · exact ⟨[], by simp⟩
    · cases hn : l[n]? with
      | none => rw [hn] at h; cases h
      | some f =>
        rw [hn] at h
        simp only [List.mem_flatMap] at h
        obtain ⟨q, _, hy⟩ := h
        obtain ⟨r, hr⟩ := tour_pre d _ _ y hy
        exact ⟨q.2 :: r, by rw [hr]; simp⟩
theorem flat_pair {α β : Type} {R : β → β → Prop} {f : α → List β} : ∀ {L : List α}, (∀ a ∈ L, (f a).Pairwise R) → L.Pairwise (fun a b => ∀ x ∈ f a, ∀ y ∈ f b, R x y) → (L.flatMap f).Pairwise R
  | [], _, _ => .nil
  | a :: L, h, k => by
    rw [List.flatMap_cons, List.pairwise_append]
    cases k with
    | cons h1 h2 =>
      refine ⟨h a (by simp), flat_pair (fun b hb => h b (by simp [hb])) h2, fun x hx y hy => ?_⟩
      obtain ⟨b, hb, hy⟩ := List.mem_flatMap.1 hy
      exact h1 b hb x hx y hy
theorem tour_up {l : List Fw} (hm : MayF l) : ∀ (d n : Nat) (p : List S), n < l.length → (tour l d n p).Pairwise fun y z => lessL y.2 z.2 = true
  | 0, n, p, _ => .nil
  | d + 1, n, p, hn => by
    simp only [tour, List.getElem?_eq_getElem hn]
    have hso := oneB_sorted (hm.one n hn)
    have hlen := oneB_len (hm.one n hn)
    refine .cons (fun z hz => ?_) (flat_pair (fun q hq => ?_) ?_)
    · obtain ⟨q, _, hy⟩ := List.mem_flatMap.1 hz
      obtain ⟨r, hr⟩ := tour_pre d _ _ z hy
      rw [hr, List.append_assoc]
      exact lessL_ext p q.2 r
    · have hk := hm.kid n hn q.1 (List.of_mem_zip hq).1
      exact tour_up hm d _ _ (by omega)
    · rw [List.pairwise_iff_getElem]
      intro i j hi hj hij x hx y hy
      rw [List.getElem_zip] at hx hy
      have hj2 : j < l[n].names.length := by simp at hj; omega
      obtain ⟨r, hr⟩ := tour_pre d _ _ x hx
      obtain ⟨s, hs⟩ := tour_pre d _ _ y hy
      rw [hr, hs, List.append_assoc, List.append_assoc, lessL_app]
      have hl := hso i j hj2 hij
      show lessL (_ :: r) (_ :: s) = true
      rw [lessL, less_not_same hl, cond_false, hl]
theorem risen_lt {l : List Fw} (h : Risen l) : ∀ (k i : Nat), i + k + 1 < l.length → lessL (placeL l i) (placeL l (i + k + 1)) = true
  | 0, i, hk => by simpa using h (i + 1) (by omega) hk
  | k + 1, i, hk => by
    refine lessL_trans (risen_lt h k i (by omega)) ?_
    have := h (i + (k + 1) + 1) (by omega) hk
    rwa [show i + (k + 1) + 1 - 1 = i + k + 1 by omega] at this
theorem ups {N : Nat} : ∀ (L : List Nat) (s : Nat), L.Pairwise (· < ·) → (∀ x ∈ L, s ≤ x ∧ x < s + L.length) → L = List.range' s L.length
  | [], s, _, _ => rfl
  | a :: L, s, h, hb => by
    cases h with
    | cons h1 h2 =>
      have ha := hb a (by simp)
      have e : a = s := by
        cases hL : L with
        | nil => rw [hL] at ha; simp at ha; omega
        | cons b M =>
          rcases Nat.lt_or_ge s a with hlt | hge
          · exfalso
            have hlen : ∀ (M : List Nat) (lo hi : Nat), M.Pairwise (· < ·) → (∀ x ∈ M, lo ≤ x ∧ x < hi) → M.length ≤ hi - lo := by
              intro M
              induction M with
              | nil => intro lo hi _ _; simp
              | cons c M ih =>
                intro lo hi hp hx
                cases hp with
                | cons p1 p2 =>
                  have hc := hx c (by simp)
                  have := ih (c + 1) hi p2 fun x hxm => ⟨p1 x hxm, (hx x (by simp [hxm])).2⟩
                  simp only [List.length_cons]
                  omega
            have h9 : L.length ≤ s + (L.length + 1) - (a + 1) := hlen L (a + 1) (s + (L.length + 1)) h2 fun x hx => ⟨h1 x hx, by have := (hb x (by simp [hx])).2; simpa using this⟩
            have h8 : a < s + (L.length + 1) := ha.2
            clear hlen h1 h2 hb ha hL
            generalize L.length = e at h9 h8
            omega
          · omega
      subst e
      rw [List.length_cons, List.range'_succ, ← ups (N := N) L (a + 1) h2 fun x hx => ⟨h1 x hx, by have := (hb x (by simp [hx])).2; simp at this; omega⟩]
theorem tour_nums {l : List Fw} (hm : MayF l) (h : Risen l) : (tour l l.length 0 []).map (·.1) = List.range l.length := by
  have hp := tour_up hm l.length 0 [] hm.pos
  have hb := fun y hy => (tour_ge hm l.length 0 [] y hy).2 hm.pos
  have hpl := fun y hy => tour_place hm l.length 0 y hm.pos hy
  have hlen := tour_len hm
  have h1 : ((tour l l.length 0 []).map (·.1)).Pairwise (· < ·) := by
    rw [List.pairwise_map]
    refine List.Pairwise.imp_of_mem ?_ hp
    intro y z hy hz hl
    rw [hpl y hy, hpl z hz] at hl
    rcases Nat.lt_trichotomy y.1 z.1 with hlt | heq | hgt
    · exact hlt
    · rw [heq, lessL_irr] at hl; cases hl
    · have h3 := risen_lt h (y.1 - z.1 - 1) z.1 (by have := hb y hy; omega)
      rw [show z.1 + (y.1 - z.1 - 1) + 1 = y.1 by omega] at h3
      have := lessL_trans hl h3
      rw [lessL_irr] at this; cases this
  have := ups (N := 0) _ 0 h1 (fun x hx => by
    obtain ⟨y, hy, rfl⟩ := List.mem_map.1 hx
    have := hb y hy
    rw [List.length_map, hlen]
    exact ⟨Nat.zero_le _, by omega⟩)
  rw [this, List.length_map, hlen, List.range_eq_range']
end Go.Vm
namespace Go.Vm
open Go Go.Proofs Go.Pa
abbrev tl (p : List S) : List (List UInt8) := p.map S.toList
theorem same_iff {a b : S} : a.same b = true ↔ a.toList = b.toList := by rw [S.same_eq]; exact beq_iff_eq
theorem sames_iff : ∀ {a b : List S}, all2 S.same a b = true ↔ tl a = tl b
  | [], [] => by simp [all2]
  | [], _ :: _ => by simp [all2]
  | _ :: _, [] => by simp [all2]
  | a :: x, b :: y => by
    have ih := sames_iff (a := x) (b := y)
    simp only [all2, Bool.and_eq_true, List.map_cons, List.cons.injEq, same_iff, ih]
theorem lessL_tl : ∀ {a b : List S}, tl a = tl b → lessL a b = false
  | [], [], _ => rfl
  | [], _ :: _, h => by simp at h
  | _ :: _, [], h => by simp at h
  | a :: x, b :: y, h => by
    simp only [List.map_cons, List.cons.injEq] at h
    rw [lessL, same_iff.2 h.1, cond_true, lessL_tl h.2]
theorem place_inj {l : List Fw} (hr : Risen l) {i j : Nat} (hi : i < l.length) (hj : j < l.length) (h : tl (placeL l i) = tl (placeL l j)) : i = j := by
  rcases Nat.lt_trichotomy i j with hlt | heq | hgt
  · have h3 := risen_lt hr (j - i - 1) i (by omega)
    rw [show i + (j - i - 1) + 1 = j by omega, lessL_tl h] at h3
    cases h3
  · exact heq
  · have h3 := risen_lt hr (i - j - 1) j (by omega)
    rw [show j + (i - j - 1) + 1 = i by omega, lessL_tl h.symm] at h3
    cases h3
theorem names_plain {f : Fw} (h : oneB f = true) : ∀ s ∈ f.names, plainN s := by
  intro s hs
  unfold oneB at h
  cases hh : headB f with
  | false => rw [hh] at h; cases h
  | true =>
    rw [hh] at h
    cases hd : dirB f with
    | false =>
      rw [hd] at h
      simp only [cond_true, cond_false, bareB, Bool.and_eq_true, decide_eq_true_eq] at h
      have h0 := h.1.1
      rw [List.length_eq_zero_iff] at h0
      rw [h0] at hs; cases hs
    | true =>
      rw [hd] at h
      simp only [cond_true, Bool.and_eq_true] at h
      obtain ⟨j, hj, rfl⟩ := List.getElem_of_mem hs
      have h1 := List.all_eq_true.1 h.1 j (List.mem_range.2 hj)
      have h2 : badAt f.names j = false := by simpa using h1
      unfold badAt at h2
      rw [Bool.or_eq_false_iff] at h2
      rw [getD_at hj] at h2
      have h3 : pnameB f.names[j] = true := by simpa using h2.1
      unfold pnameB at h3
      simp only [Bool.and_eq_true] at h3
      obtain ⟨⟨⟨⟨n0, _⟩, _⟩, _⟩, hsp⟩ := h3
      refine ⟨fun he => ?_, fun b hb he => ?_⟩
      · have := congrArg List.length he
        rw [S.len] at this
        simp at n0
        simp at this
        omega
      · subst he
        have : anySp f.names[j].toList = true := by
          unfold anySp
          rw [List.any_eq_true]
          exact ⟨47, hb, rfl⟩
        rw [this] at hsp; cases hsp
theorem place_plain {l : List Fw} (hm : MayF l) : ∀ m, m < l.length → ∀ s ∈ placeL l m, plainN s := by
  intro m
  induction m using Nat.strongRecOn with
  | _ m ih =>
    intro h s hs
    by_cases h0 : m = 0
    · subst h0; rw [placeL_zero] at hs; cases hs
    · obtain ⟨u1, u2, _, _, hmem⟩ := upOf_lt hm (by omega) h
      rw [placeL_step hm (by omega) h] at hs
      rcases List.mem_append.1 hs with hs | hs
      · exact ih _ u1 u2 s hs
      · obtain ⟨j, hj, hjk⟩ := List.getElem_of_mem hmem
        have hlen := oneB_len (hm.one _ u2)
        have hn := name_at hm u2 hj (by omega)
        rw [hjk] at hn
        rw [List.mem_singleton.1 hs, hn]
        exact names_plain (hm.one _ u2) _ (List.getElem_mem _)
theorem lines_nums {l : List Fw} (hm : MayF l) (hr : Risen l) : tour l l.length 0 [] = (List.range l.length).map fun k => (k, placeL l k) := by
  rw [← tour_nums hm hr, List.map_map]
  have : ∀ L : List (Nat × List S), (∀ y ∈ L, y.2 = placeL l y.1) → L = L.map ((fun k => (k, placeL l k)) ∘ fun x => x.1) := by
    intro L
    induction L with
    | nil => intro _; rfl
    | cons y L ih =>
      intro h
      rw [List.map_cons, ← ih fun z hz => h z (by simp [hz])]
      congr 1
      show y = (y.1, placeL l y.1)
      rw [← h y (by simp)]
  exact this _ fun y hy => tour_place hm l.length 0 y hm.pos hy
end Go.Vm
namespace Go.Vm
open Go Go.Proofs Go.Pa
theorem up_eq : ∀ {a b : List Int}, a.Pairwise (· < ·) → b.Pairwise (· < ·) → (∀ x, x ∈ a ↔ x ∈ b) → a = b
  | [], [], _, _, _ => rfl
  | [], y :: b, _, _, h => by have := (h y).2 (by simp); simp at this
  | x :: a, [], _, _, h => by have := (h x).1 (by simp); simp at this
  | x :: a, y :: b, .cons h1 h2, .cons k1 k2, h => by
    have hxy : x = y := by
      have hx := (h x).1 (by simp)
      have hy := (h y).2 (by simp)
      rcases List.mem_cons.1 hx with hx | hx
      · exact hx
      · rcases List.mem_cons.1 hy with hy | hy
        · exact hy.symm
        · have e1 := k1 x hx
          have e2 := h1 y hy
          omega
    subst hxy
    rw [up_eq h2 k2 fun z => ?_]
    constructor
    · intro hz
      have e1 := h1 z hz
      rcases List.mem_cons.1 ((h z).1 (List.mem_cons_of_mem _ hz)) with h0 | h0
      · omega
      · exact h0
    · intro hz
      have e1 := k1 z hz
      rcases List.mem_cons.1 ((h z).2 (List.mem_cons_of_mem _ hz)) with h0 | h0
      · omega
      · exact h0
theorem pathB_tl : ∀ {p q : List S}, tl p = tl q → pathB p = pathB q
  | [], [], _ => rfl
  | [], _ :: _, h => by simp at h
  | _ :: _, [], h => by simp at h
  | a :: x, b :: y, h => by
    have key : ∀ {p q : List S}, tl p = tl q → flatP p = flatP q := by
      intro p
      induction p with
      | nil => intro q h; cases q with
        | nil => rfl
        | cons _ _ => simp at h
      | cons c p ih =>
        intro q h
        cases q with
        | nil => simp at h
        | cons d q =>
          simp only [List.map_cons, List.cons.injEq] at h
          show (47 :: c.toList) ++ flatP p = (47 :: d.toList) ++ flatP q
          rw [h.1, ih h.2]
    exact key h
theorem kids_up {l : List Fw} (hm : MayF l) (hr : Risen l) {k : Nat} (hk : k < l.length) : l[k].kids.Pairwise (· < ·) := by
  rw [List.pairwise_iff_getElem]
  intro i j hi hj hij
  have hlen := oneB_len (hm.one k hk)
  have hso := oneB_sorted (hm.one k hk)
  obtain ⟨_, i1, i2, i3⟩ := up_uniq hm hk (List.getElem_mem hi)
  obtain ⟨_, j1, j2, j3⟩ := up_uniq hm hk (List.getElem_mem hj)
  have pi := place_kid hm hk hi (by omega)
  have pj := place_kid hm hk hj (by omega)
  have hl : lessL (placeL l l[k].kids[i].toNat) (placeL l l[k].kids[j].toNat) = true := by
    rw [pi, pj, lessL_app]
    have hl := hso i j (by omega) hij
    rw [lessL, less_not_same hl, cond_false, hl]
  rcases Nat.lt_trichotomy l[k].kids[i].toNat l[k].kids[j].toNat with h | h | h
  · omega
  · rw [h, lessL_irr] at hl; cases hl
  · have h3 := risen_lt hr (l[k].kids[i].toNat - l[k].kids[j].toNat - 1) l[k].kids[j].toNat (by omega)
    rw [show l[k].kids[j].toNat + (l[k].kids[i].toNat - l[k].kids[j].toNat - 1) + 1 = l[k].kids[i].toNat by omega] at h3
    have := lessL_trans hl h3
    rw [lessL_irr] at this; cases this
theorem app_one {a b : List (List UInt8)} {x y : List UInt8} (h : a ++ [x] = b ++ [y]) : a = b ∧ x = y := by
  have := List.append_inj' h rfl
  exact ⟨this.1, by simpa using this.2⟩
theorem kids_mem {a b : List Fw} (ha : MayF a) (hb : MayF b) (ra : Risen a) (hl : a.length = b.length) (hp : ∀ m, m < a.length → tl (placeL a m) = tl (placeL b m)) {k : Nat} (hk : k < a.length) (hk' : k < b.length) {x : Int} (hx : x ∈ a[k].kids) : x ∈ b[k].kids := by
  obtain ⟨i, hi, rfl⟩ := List.getElem_of_mem hx
  have hlen := oneB_len (ha.one k hk)
  obtain ⟨_, i1, i2, i3⟩ := up_uniq ha hk (List.getElem_mem hi)
  have pi := place_kid ha hk hi (by omega)
  obtain ⟨u1, u2, _, _, hmem⟩ := upOf_lt hb i1 (show a[k].kids[i].toNat < b.length by omega)
  have pb := placeL_step hb i1 (show a[k].kids[i].toNat < b.length by omega)
  have h := hp _ i2
  rw [pi, pb] at h
  simp only [tl, List.map_append, List.map_cons, List.map_nil] at h
  have h1 := (app_one h).1
  have h2 : tl (placeL a k) = tl (placeL a (upOf b a[k].kids[i].toNat)) := h1.trans (hp _ (by omega)).symm
  have e := place_inj ra hk (show upOf b a[k].kids[i].toNat < a.length by omega) h2
  rw [i3] at hmem
  have key : ∀ u (hu : u < b.length), k = u → a[k].kids[i] ∈ (b[u]'hu).kids → a[k].kids[i] ∈ b[k].kids := fun u hu he h => by subst he; exact h
  exact key _ u2 e hmem
theorem all2_eqI : ∀ {a b : List Int}, all2 eqI a b = true ↔ a = b
  | [], [] => by simp [all2]
  | [], _ :: _ => by simp [all2]
  | _ :: _, [] => by simp [all2]
  | a :: x, b :: y => by
    have ih := all2_eqI (a := x) (b := y)
    simp only [all2, Bool.and_eq_true, List.cons.injEq, ih, eqI, decide_eq_true_eq]
theorem sameF_iff {f g : Fw} : sameF f g = true ↔ f.known = g.known ∧ f.kind = g.kind ∧ f.rest = g.rest ∧ f.beside = g.beside ∧ tl f.names = tl g.names ∧ f.kids = g.kids := by
  unfold sameF
  simp only [Bool.and_eq_true, beq_iff_eq, decide_eq_true_eq, sames_iff, all2_eqI]
  constructor
  · rintro ⟨⟨⟨⟨⟨h1, h2⟩, h3⟩, h4⟩, h5⟩, h6⟩
    exact ⟨h1, h2, h3, h4, h5, h6⟩
  · rintro ⟨h1, h2, h3, h4, h5, h6⟩
    exact ⟨⟨⟨⟨⟨h1, h2⟩, h3⟩, h4⟩, h5⟩, h6⟩
theorem all2_iff {α : Type} {p : α → α → Bool} : ∀ {l m : List α}, all2 p l m = true ↔ l.length = m.length ∧ ∀ k (h : k < l.length) (h' : k < m.length), p l[k] m[k] = true
  | [], [] => by simp [all2]
  | [], _ :: _ => by simp [all2]
  | _ :: _, [] => by simp [all2]
  | a :: x, b :: y => by
    have ih := all2_iff (p := p) (l := x) (m := y)
    simp only [all2, Bool.and_eq_true, ih, List.length_cons]
    constructor
    · rintro ⟨h1, h2, h3⟩
      refine ⟨by omega, fun k h h' => ?_⟩
      cases k with
      | zero => exact h1
      | succ k => exact h3 k (by omega) (by omega)
    · rintro ⟨h1, h2⟩
      exact ⟨h2 0 (by omega) (by omega), by omega, fun k h h' => h2 (k + 1) (by omega) (by omega)⟩
theorem places_of {a b : List Fw} (ha : MayF a) (hb : MayF b) (h : all2 sameF a b = true) : ∀ m, m < a.length → tl (placeL a m) = tl (placeL b m) := by
  obtain ⟨hl, hs⟩ := all2_iff.1 h
  intro m
  induction m using Nat.strongRecOn with
  | _ m ih =>
    intro hm
    by_cases h0 : m = 0
    · subst h0; rfl
    · obtain ⟨u1, u2, _, _, hmem⟩ := upOf_lt ha (by omega) hm
      obtain ⟨i, hi, hik⟩ := List.getElem_of_mem hmem
      have hu : upOf a m < b.length := by omega
      obtain ⟨_, _, _, _, hn, hk⟩ := sameF_iff.1 (hs _ u2 hu)
      have hi' : i < b[upOf a m].kids.length := by rw [← hk]; exact hi
      have la := oneB_len (ha.one _ u2)
      have lb := oneB_len (hb.one _ hu)
      have pa := place_kid ha u2 hi (by omega)
      have pb := place_kid hb hu hi' (by omega)
      have ka : a[upOf a m].kids[i].toNat = m := by rw [hik]; rfl
      have kb : b[upOf a m].kids[i].toNat = m := by
        have : b[upOf a m].kids[i] = a[upOf a m].kids[i] := by simp only [hk]
        rw [this]; exact ka
      rw [ka] at pa
      rw [kb] at pb
      rw [pa, pb]
      simp only [tl, List.map_append, List.map_cons, List.map_nil]
      have h1 := ih _ u1 u2
      have h2 : (a[upOf a m].names[i]'(by omega)).toList = (b[upOf a m].names[i]'(by omega)).toList := by
        have := congrArg (fun l => l[i]?) hn
        simpa [List.getElem?_eq_getElem (show i < a[upOf a m].names.length by omega), List.getElem?_eq_getElem (show i < b[upOf a m].names.length by omega)] using this
      rw [show List.map S.toList (placeL a (upOf a m)) = _ from h1, h2]
theorem lines_at {l : List Fw} (hm : MayF l) (hr : Risen l) {t : List S} (h : t.map S.toList = (tour l l.length 0 []).map (lineL l)) : t.length = l.length ∧ ∀ k (hk : k < l.length) (hk' : k < t.length), t[k].toList = lineB l[k] (placeL l k) := by
  rw [lines_nums hm hr] at h
  have hlen := congrArg List.length h
  simp at hlen
  refine ⟨hlen, fun k hk hk' => ?_⟩
  have := congrArg (fun l => l[k]?) h
  simp [List.getElem?_eq_getElem hk'] at this
  rw [List.getElem?_eq_getElem (by simpa using hk)] at this
  simp [lineL, List.getElem?_eq_getElem hk] at this
  exact this
theorem line_parts {f g : Fw} {p q : List S} (hf : FKd f) (hg : FKd g) (hp : ∀ s ∈ p, plainN s) (hq : ∀ s ∈ q, plainN s) (h : lineB f p = lineB g q) : tl p = tl q ∧ f.known = g.known ∧ f.kind = g.kind ∧ f.rest = g.rest ∧ f.beside = g.beside := by
  have nc : ∀ {f : Fw}, FKd f → nocol (32 :: sayB f) := fun hf b hb => by
    rcases List.mem_cons.1 hb with rfl | hb
    · decide
    · exact say_nocol hf b hb
  have h' : esc (pathB p) ++ 58 :: (32 :: sayB f) = esc (pathB q) ++ 58 :: (32 :: sayB g) := by simpa [lineB] using h
  obtain ⟨h1, h2⟩ := part_uniq (nc hf) (nc hg) h'
  exact ⟨pathB_inj hp hq (esc_inj _ _ h1), say_inj hf hg (by simpa using h2)⟩
theorem hPL {a b : List Fw} (hsa : ∀ f ∈ a, f.small) (hsb : ∀ f ∈ b, f.small) (ha : MayF a) (hb : MayF b) (ra : Risen a) (rb : Risen b) (ta tb : List S) (hta : ta.map S.toList = (tour a a.length 0 []).map (lineL a)) (htb : tb.map S.toList = (tour b b.length 0 []).map (lineL b)) : all2 S.same ta tb = all2 sameF a b := by
  obtain ⟨la, ea⟩ := lines_at ha ra hta
  obtain ⟨lb, eb⟩ := lines_at hb rb htb
  rw [Bool.eq_iff_iff]
  constructor
  · intro h
    obtain ⟨h1, h2⟩ := all2_iff.1 h
    have hl : a.length = b.length := by omega
    have hk : ∀ k (h : k < a.length) (h' : k < b.length), tl (placeL a k) = tl (placeL b k) ∧ a[k].known = b[k].known ∧ a[k].kind = b[k].kind ∧ a[k].rest = b[k].rest ∧ a[k].beside = b[k].beside := fun k h h' => by
      have e := same_iff.1 (h2 k (by omega) (by omega))
      rw [ea k h (by omega), eb k h' (by omega)] at e
      exact line_parts (fkd_of (ha.one k h) (hsa _ (List.getElem_mem h))) (fkd_of (hb.one k h') (hsb _ (List.getElem_mem h'))) (place_plain ha k h) (place_plain hb k h') e
    have hp : ∀ m, m < a.length → tl (placeL a m) = tl (placeL b m) := fun m hm => (hk m hm (by omega)).1
    refine all2_iff.2 ⟨hl, fun k h h' => sameF_iff.2 ?_⟩
    obtain ⟨_, k1, k2, k3, k4⟩ := hk k h h'
    have hkids : a[k].kids = b[k].kids := up_eq (kids_up ha ra h) (kids_up hb rb h') fun x => ⟨kids_mem ha hb ra hl hp h h', kids_mem hb ha rb hl.symm (fun m hm => (hp m (by omega)).symm) h' h⟩
    refine ⟨k1, k2, k3, k4, ?_, hkids⟩
    have na := oneB_len (ha.one k h)
    have nb := oneB_len (hb.one k h')
    have hkl := congrArg List.length hkids
    refine List.ext_getElem (by simp; omega) fun i i1 i2 => ?_
    simp only [tl, List.length_map] at i1 i2
    have pa := place_kid ha h (show i < a[k].kids.length by omega) i1
    have pb := place_kid hb h' (show i < b[k].kids.length by omega) i2
    obtain ⟨_, _, m2, _⟩ := up_uniq ha h (List.getElem_mem (show i < a[k].kids.length by omega))
    have e := hp _ m2
    rw [pa] at e
    have e2 : a[k].kids[i].toNat = b[k].kids[i].toNat := by simp only [hkids]
    rw [e2, pb] at e
    simp only [tl, List.map_append, List.map_cons, List.map_nil] at e
    simp only [List.getElem_map]
    exact (app_one e).2
  · intro h
    obtain ⟨hl, hs⟩ := all2_iff.1 h
    have hp := places_of ha hb h
    refine all2_iff.2 ⟨by omega, fun k h h' => same_iff.2 ?_⟩
    have hs2 := sameF_iff.1 (hs k (by omega) (by omega))
    rw [ea k (by omega) h, eb k (by omega) h']
    obtain ⟨k1, k2, k3, k4, _, _⟩ := hs2
    have e1 := pathB_tl (hp k (by omega))
    unfold lineB sayB
    rw [e1, k1, k2, k3, k4]
end Go.Vm
namespace Go.Vm
open Go Go.Proofs Go.Pa
attribute [local simp] OkG xOpsG wantG OkD OkRuns xOps xDrawL vwanted isDefer vop kindOf vpure ev evs toV atTo_some Fr.dsTo Fr.glTo Fr.toNone initFr_at initFr_ds initFr_gl veff vact traverse tupled vresult V.undef evOpt sameIn nn_eql nn_neq nn_lss nn_leq nn_gtr nn_geq nl_eql nl_neq nl_lss nl_leq nl_gtr nl_geq vbin_seql vbin_sneq vload_ctr vbin_add vbin_sub wrap_i64 veq_str veq_int fcp0 fcp1 fcp2 fcp3 fcp4 fcp5 fg0 fg1 fg2 fg3 fg4 fg5
variable [Memo] [NY] [NZ] [NO] [NA]
set_option maxHeartbeats 4000000 in
set_option maxRecDepth 100000 in
theorem law6 (gl : Gl) {aL : List V} (hh : Hits gl aL) (hw : gl.get 0 = some wordsV) (st : St) (x y : V) (a b : List Fw) (hx : Row Fw.cells x a) (hy : Row Fw.cells y b) (hok : ∀ f ∈ a, f.ok) (hok' : ∀ f ∈ b, f.ok) :
    Says Tryz.prog gl 6 [x, y] st (fun v st' => v = .bool true) := by
  refine saysK (NY.no _ rfl rfl rfl _ _) Tryz.func6 rfl (by kernel_rfl) fun R hR K gr gn => ?_
  generalize hfr : initFr gl [x, y] = fr
  have hF : Fs gl [(0, x), (1, y)] fr := by subst hfr; simp [Fs]
  simp only [Fs] at hF
  clear hfr
  obtain ⟨v, s1, hc1, ⟨b1, rfl, hb1⟩, hk1⟩ := Says.use (long_ok gl st x a hx hok) (by kernel_rfl)
  obtain ⟨v, s2, hc2, ⟨b2, rfl, hb2⟩, hk2⟩ := Says.use (long_ok gl s1 y b hy hok') (by kernel_rfl)
  obtain ⟨v, sa, hca, rfl, hsa⟩ := Says.use (awake_ok gl s1) (by kernel_rfl)
  rw [show sa = s1 from hsa] at hca
  clear hsa
  obtain ⟨v, sa, hca2, rfl, hsa⟩ := Says.use (awake_ok gl s2) (by kernel_rfl)
  rw [show sa = s2 from hsa] at hca2
  clear hsa
  cases b1 with
  | true =>
    refine DoK.seq ?_
    refine DoK.regG (gs := [none]) (by kernel_rfl) fun K1 gK => ?_
    simp (maxSteps := 1000000) (disch := omega) []
    refine gK _ _ ?_
    clear gK K1
    refine DoK.seq ?_
    refine DoK.seq ?_
    refine DoK.regG (gs := [none, none, none, some (some 11, false), some (some 11, false), none, none, some (some 15, false), some (some 15, false), none]) (by kernel_rfl) fun K1 gK => ?_
    simp (maxSteps := 1000000) (disch := omega) [hF, hc1]
    refine gK _ _ ?_
    clear gK K1
    refine DoK.condT (by simp (maxSteps := 1000000) (disch := omega) []) ?_
    refine DoK.seq ?_
    refine DoK.regG (gs := [none, none]) (by kernel_rfl) fun K1 gK => ?_
    simp (maxSteps := 1000000) (disch := omega) [hF, hca]
    refine gK _ _ ?_
    clear gK K1
    refine DoK.ret (gr _ _ ?_)
    simp [Ends, Tryz.f6, hF]
    refine hR _ _ ?_
    rfl
  | false =>
    obtain ⟨hl, hs⟩ := hb1 rfl
    cases b2 with
    | true =>
      refine DoK.seq ?_
      refine DoK.regG (gs := [none]) (by kernel_rfl) fun K1 gK => ?_
      simp (maxSteps := 1000000) (disch := omega) []
      refine gK _ _ ?_
      clear gK K1
      refine DoK.seq ?_
      refine DoK.seq ?_
      refine DoK.regG (gs := [none, none, none, some (some 11, false), some (some 11, false), none, none, some (some 15, false), some (some 15, false), none]) (by kernel_rfl) fun K1 gK => ?_
      simp (maxSteps := 1000000) (disch := omega) [hF, hc1, hc2]
      refine gK _ _ ?_
      clear gK K1
      refine DoK.condT (by simp (maxSteps := 1000000) (disch := omega) []) ?_
      refine DoK.seq ?_
      refine DoK.regG (gs := [none, none]) (by kernel_rfl) fun K1 gK => ?_
      simp (maxSteps := 1000000) (disch := omega) [hF, hca2]
      refine gK _ _ ?_
      clear gK K1
      refine DoK.ret (gr _ _ ?_)
      simp [Ends, Tryz.f6, hF]
      refine hR _ _ ?_
      rfl
    | false =>
      obtain ⟨hl', hs'⟩ := hb2 rfl
      obtain ⟨v, s3, hc3, rfl, hk3⟩ := Says.use (wMayP_ok gl hh s2 x a hx hok hs hl) (by kernel_rfl)
      obtain ⟨v, s4, hc4, rfl, hk4⟩ := Says.use (wMayP_ok gl hh s3 y b hy hok' hs' hl') (by kernel_rfl)
      obtain ⟨M, hM⟩ : ∃ M, mayP a = M := ⟨_, rfl⟩
      obtain ⟨N, hN⟩ : ∃ N, mayP b = N := ⟨_, rfl⟩
      rw [hM] at hc3
      rw [hN] at hc4
      cases M with
      | true =>
        cases N with
        | true =>
          have hma := mayP_iff.1 hM
          have hmb := mayP_iff.1 hN
          obtain ⟨v, s5, hc5, ⟨r1, rfl, hr1⟩, hk5⟩ := Says.use (rising_ok gl hh s4 x a hx hok hs hl hma) (by kernel_rfl)
          obtain ⟨v, s6, hc6, ⟨r2, rfl, hr2⟩, hk6⟩ := Says.use (rising_ok gl hh s5 y b hy hok' hs' hl' hmb) (by kernel_rfl)
          cases r1 with
          | true =>
            cases r2 with
            | true =>
              obtain ⟨v, s7, hc7, ⟨y7, t7, rfl, ht7, hy7⟩, hk7⟩ := Says.use (wShow gl hh hw s6 x a hx hok hs hl) (by kernel_rfl)
              obtain ⟨v, s8, hc8, ⟨y8, t8, rfl, ht8, hy8⟩, hk8⟩ := Says.use (wShow gl hh hw s7 y b hy hok' hs' hl') (by kernel_rfl)
              rw [hM, cond_true] at ht7 hc7
              rw [hN, cond_true] at ht8 hc8
              have h7l : t7.length = a.length := by
                have := congrArg List.length ht7
                simpa [tour_len hma] using this
              obtain ⟨v, s9, hc9, rfl, hk9⟩ := Says.use (sameS_ok gl s8 y7 y8 t7 t8 (hy7.keep hk8).vw hy8.vw (by omega)) (by kernel_rfl)
              obtain ⟨v, s10, hc10, rfl, hk10⟩ := Says.use (wSameP_ok gl s9 x y a b hx hy hok hok' hs (by omega)) (by kernel_rfl)
              rw [hPL hs hs' hma hmb (hr1 rfl) (hr2 rfl) t7 t8 ht7 ht8] at hc9
              obtain ⟨A, hA⟩ : ∃ A, all2 sameF a b = A := ⟨_, rfl⟩
              rw [hA] at hc9 hc10
              refine DoK.seq ?_
              refine DoK.regG (gs := [none]) (by kernel_rfl) fun K1 gK => ?_
              simp (maxSteps := 1000000) (disch := omega) []
              refine gK _ _ ?_
              clear gK K1
              refine DoK.seq ?_
              refine DoK.seq ?_
              refine DoK.regG (gs := [none, none, none, some (some 11, false), some (some 11, false), none, none, some (some 15, false), some (some 15, false), none]) (by kernel_rfl) fun K1 gK => ?_
              simp (maxSteps := 1000000) (disch := omega) [hF, hc1, hc2, hca2]
              refine gK _ _ ?_
              clear gK K1
              refine DoK.condF (by simp (maxSteps := 1000000) (disch := omega) []) ?_
              refine DoK.skip ?_
              refine DoK.seq ?_
              refine DoK.seq ?_
              refine DoK.regG (gs := [none, none, none, none, some (some 23, false), some (some 23, false), some (some 23, false), none, none, some (some 28, false), some (some 28, false), some (some 28, false), none, none, some (some 33, false), some (some 33, false), some (some 33, false), none]) (by kernel_rfl) fun K1 gK => ?_
              simp (maxSteps := 1000000) (disch := omega) [hF, hc3, hc4, hc5, hc6]
              refine gK _ _ ?_
              clear gK K1
              refine DoK.condF (by simp (maxSteps := 1000000) (disch := omega) []) ?_
              refine DoK.skip ?_
              refine DoK.seq ?_
              refine DoK.regG (gs := [none, none, none, none, none, none, none]) (by kernel_rfl) fun K1 gK => ?_
              simp (maxSteps := 1000000) (disch := omega) [hF, hc7]
              refine gK _ _ ?_
              clear gK K1
              refine DoK.seq ?_
              refine DoK.regG (gs := [none, none, none, none, none, none, none]) (by kernel_rfl) fun K1 gK => ?_
              simp (maxSteps := 1000000) (disch := omega) [hF, hc8]
              refine gK _ _ ?_
              clear gK K1
              refine DoK.seq ?_
              refine DoK.regG (gs := [none, none, none, some (some 50, true), some (some 50, true), none, none, some (some 54, true), some (some 54, true), some (some 54, true), some (some 54, true), some (some 54, true), some (some 54, true), some (some 54, true), none, none]) (by kernel_rfl) fun K1 gK => ?_
              simp (maxSteps := 1000000) (disch := omega) [hF, beq4, vbin_eql, hc9, hc10]
              refine gK _ _ ?_
              clear gK K1
              refine DoK.ret (gr _ _ ?_)
              simp [Ends, Tryz.f6, hF]
              refine hR _ _ ?_
              rfl
            | false =>
              refine DoK.seq ?_
              refine DoK.regG (gs := [none]) (by kernel_rfl) fun K1 gK => ?_
              simp (maxSteps := 1000000) (disch := omega) []
              refine gK _ _ ?_
              clear gK K1
              refine DoK.seq ?_
              refine DoK.seq ?_
              refine DoK.regG (gs := [none, none, none, some (some 11, false), some (some 11, false), none, none, some (some 15, false), some (some 15, false), none]) (by kernel_rfl) fun K1 gK => ?_
              simp (maxSteps := 1000000) (disch := omega) [hF, hc1, hc2, hca2]
              refine gK _ _ ?_
              clear gK K1
              refine DoK.condF (by simp (maxSteps := 1000000) (disch := omega) []) ?_
              refine DoK.skip ?_
              refine DoK.seq ?_
              refine DoK.seq ?_
              refine DoK.regG (gs := [none, none, none, none, some (some 23, false), some (some 23, false), some (some 23, false), none, none, some (some 28, false), some (some 28, false), some (some 28, false), none, none, some (some 33, false), some (some 33, false), some (some 33, false), none]) (by kernel_rfl) fun K1 gK => ?_
              simp (maxSteps := 1000000) (disch := omega) [hF, hc3, hc4, hc5, hc6]
              refine gK _ _ ?_
              clear gK K1
              refine DoK.condT (by simp (maxSteps := 1000000) (disch := omega) []) ?_
              refine DoK.seq ?_
              refine DoK.regG (gs := [none]) (by kernel_rfl) fun K1 gK => ?_
              simp (maxSteps := 1000000) (disch := omega) []
              refine gK _ _ ?_
              clear gK K1
              refine DoK.ret (gr _ _ ?_)
              simp [Ends, Tryz.f6, hF]
              refine hR _ _ ?_
              rfl
          | false =>
            refine DoK.seq ?_
            refine DoK.regG (gs := [none]) (by kernel_rfl) fun K1 gK => ?_
            simp (maxSteps := 1000000) (disch := omega) []
            refine gK _ _ ?_
            clear gK K1
            refine DoK.seq ?_
            refine DoK.seq ?_
            refine DoK.regG (gs := [none, none, none, some (some 11, false), some (some 11, false), none, none, some (some 15, false), some (some 15, false), none]) (by kernel_rfl) fun K1 gK => ?_
            simp (maxSteps := 1000000) (disch := omega) [hF, hc1, hc2, hca2]
            refine gK _ _ ?_
            clear gK K1
            refine DoK.condF (by simp (maxSteps := 1000000) (disch := omega) []) ?_
            refine DoK.skip ?_
            refine DoK.seq ?_
            refine DoK.seq ?_
            refine DoK.regG (gs := [none, none, none, none, some (some 23, false), some (some 23, false), some (some 23, false), none, none, some (some 28, false), some (some 28, false), some (some 28, false), none, none, some (some 33, false), some (some 33, false), some (some 33, false), none]) (by kernel_rfl) fun K1 gK => ?_
            simp (maxSteps := 1000000) (disch := omega) [hF, hc3, hc4, hc5]
            refine gK _ _ ?_
            clear gK K1
            refine DoK.condT (by simp (maxSteps := 1000000) (disch := omega) []) ?_
            refine DoK.seq ?_
            refine DoK.regG (gs := [none]) (by kernel_rfl) fun K1 gK => ?_
            simp (maxSteps := 1000000) (disch := omega) []
            refine gK _ _ ?_
            clear gK K1
            refine DoK.ret (gr _ _ ?_)
            simp [Ends, Tryz.f6, hF]
            refine hR _ _ ?_
            rfl
        | false =>
          refine DoK.seq ?_
          refine DoK.regG (gs := [none]) (by kernel_rfl) fun K1 gK => ?_
          simp (maxSteps := 1000000) (disch := omega) []
          refine gK _ _ ?_
          clear gK K1
          refine DoK.seq ?_
          refine DoK.seq ?_
          refine DoK.regG (gs := [none, none, none, some (some 11, false), some (some 11, false), none, none, some (some 15, false), some (some 15, false), none]) (by kernel_rfl) fun K1 gK => ?_
          simp (maxSteps := 1000000) (disch := omega) [hF, hc1, hc2, hca2]
          refine gK _ _ ?_
          clear gK K1
          refine DoK.condF (by simp (maxSteps := 1000000) (disch := omega) []) ?_
          refine DoK.skip ?_
          refine DoK.seq ?_
          refine DoK.seq ?_
          refine DoK.regG (gs := [none, none, none, none, some (some 23, false), some (some 23, false), some (some 23, false), none, none, some (some 28, false), some (some 28, false), some (some 28, false), none, none, some (some 33, false), some (some 33, false), some (some 33, false), none]) (by kernel_rfl) fun K1 gK => ?_
          simp (maxSteps := 1000000) (disch := omega) [hF, hc3, hc4]
          refine gK _ _ ?_
          clear gK K1
          refine DoK.condT (by simp (maxSteps := 1000000) (disch := omega) []) ?_
          refine DoK.seq ?_
          refine DoK.regG (gs := [none]) (by kernel_rfl) fun K1 gK => ?_
          simp (maxSteps := 1000000) (disch := omega) []
          refine gK _ _ ?_
          clear gK K1
          refine DoK.ret (gr _ _ ?_)
          simp [Ends, Tryz.f6, hF]
          refine hR _ _ ?_
          rfl
      | false =>
        refine DoK.seq ?_
        refine DoK.regG (gs := [none]) (by kernel_rfl) fun K1 gK => ?_
        simp (maxSteps := 1000000) (disch := omega) []
        refine gK _ _ ?_
        clear gK K1
        refine DoK.seq ?_
        refine DoK.seq ?_
        refine DoK.regG (gs := [none, none, none, some (some 11, false), some (some 11, false), none, none, some (some 15, false), some (some 15, false), none]) (by kernel_rfl) fun K1 gK => ?_
        simp (maxSteps := 1000000) (disch := omega) [hF, hc1, hc2, hca2]
        refine gK _ _ ?_
        clear gK K1
        refine DoK.condF (by simp (maxSteps := 1000000) (disch := omega) []) ?_
        refine DoK.skip ?_
        refine DoK.seq ?_
        refine DoK.seq ?_
        refine DoK.regG (gs := [none, none, none, none, some (some 23, false), some (some 23, false), some (some 23, false), none, none, some (some 28, false), some (some 28, false), some (some 28, false), none, none, some (some 33, false), some (some 33, false), some (some 33, false), none]) (by kernel_rfl) fun K1 gK => ?_
        simp (maxSteps := 1000000) (disch := omega) [hF, hc3]
        refine gK _ _ ?_
        clear gK K1
        refine DoK.condT (by simp (maxSteps := 1000000) (disch := omega) []) ?_
        refine DoK.seq ?_
        refine DoK.regG (gs := [none]) (by kernel_rfl) fun K1 gK => ?_
        simp (maxSteps := 1000000) (disch := omega) []
        refine gK _ _ ?_
        clear gK K1
        refine DoK.ret (gr _ _ ?_)
        simp [Ends, Tryz.f6, hF]
        refine hR _ _ ?_
        rfl
end Go.Vm
