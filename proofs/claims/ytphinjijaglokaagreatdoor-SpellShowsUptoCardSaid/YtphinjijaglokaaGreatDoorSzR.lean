/- What an argument Jow as: no greater than the bulk of the reading. -/
import Derived.Test.YtphinjijaglokaaGreatDoorSz0
import Derived.Test.YtphinjijaglokaaGreatDoorRows
namespace Go.Vm
open Go Go.Proofs Go.RowKit
abbrev bulk {H : Type} (d : DataW H) : Nat := Go.Proofs.YtphinjijaglokaaGreatDoor.Rows.uptoBulk d
abbrev JbK {H : Type} (l : List (DataW H)) : Nat := Go.Proofs.YtphinjijaglokaaGreatDoor.Rows.uptoBulkAll l
theorem JkY {H : Type} (l r : List (DataW H)) : JbK (l ++ r) = JbK l + JbK r := by
 induction l with
 | nil => simp [JbK, Go.Proofs.YtphinjijaglokaaGreatDoor.Rows.uptoBulkAll]
 | cons x l ih => simp only [JbK, List.cons_append, Go.Proofs.YtphinjijaglokaaGreatDoor.Rows.uptoBulkAll] at ih ⊢; omega
theorem JkZ {H : Type} (d : DataW H) : JbK [d] = bulk d := by simp [JbK, Go.Proofs.YtphinjijaglokaaGreatDoor.Rows.uptoBulkAll]
theorem Je5 {H : Type} {P : Program} {g : Gh} {cs : List Value} {n : Nat} : ∀ (l : List Field) (xs : List (DataW H)) (c e : Nat), xs.length = l.length → JiE P l c = some e → c ≤ cs.length → e ≤ cs.length → (∀ (i : Nat) f d, l[i]? = some f → xs[i]? = some d → ∃ vs, Rs g vs ((cs.drop f.offset).take (P.cellsOf f.type)) ∧ Shp P n f.type vs ∧ vtots vs ≤ bulk d) →
  c ≤ e ∧ ∃ ls : List (List V), ls.length = l.length ∧ Rs g ls.flatten ((cs.drop c).take (e - c)) ∧ (∀ (i : Nat) f x, l[i]? = some f → ls[i]? = some x → Shp P n f.type x) ∧ vtots ls.flatten ≤ JbK xs
 | [], xs, c, e, hx, h, _, _, _ => by
  simp only [JiE, Option.some.injEq] at h
  subst h
  exact ⟨Nat.le_refl _, [], rfl, by simpa using Rs.nil, fun i f x h => by simp at h, by simp [vtots]⟩
 | f :: r, [], c, e, hx, h, hc, he, hp => by simp at hx
 | f :: r, d :: xs, c, e, hx, h, hc, he, hp => by
  simp only [JiE] at h
  split at h
  ·rename_i ho
   obtain ⟨vs, h1, h2, hv⟩ := hp 0 f d rfl rfl
   have hmono : ∀ (l : List Field) (c e : Nat), JiE P l c = some e → c ≤ e := by
    intro l
    induction l with
    | nil => intro c e h; simp only [JiE, Option.some.injEq] at h; omega
    | cons f r ih =>
     intro c e h
     simp only [JiE] at h
     split at h
     ·have := ih _ _ h; omega
     ·cases h
   have hce := hmono r _ _ h
   obtain ⟨h3, ls, h4, h5, h6, h7⟩ := Je5 r xs (c + P.cellsOf f.type) e (by simpa using hx) h (by omega) he (fun i g d hg hd => hp (i + 1) g d (by simpa using hg) (by simpa using hd))
   refine ⟨by omega, vs :: ls, by simp [h4], ?_, fun i g x hg hx => ?_, ?_⟩
   ·rw [ho] at h1
    have := h1.app h5
    rw [List.flatten_cons]
    have e2 : List.take (P.cellsOf f.type) (List.drop c cs) ++ List.take (e - (c + P.cellsOf f.type)) (List.drop (c + P.cellsOf f.type) cs) = List.take (e - c) (List.drop c cs) := by
     rw [← List.drop_drop, ← List.take_add]
     congr 1; omega
    rwa [e2] at this
   ·cases i with
    | zero => simp at hg hx; subst hg; subst hx; exact h2
    | succ i => exact h6 i g x (by simpa using hg) (by simpa using hx)
   ·rw [List.flatten_cons, JbX]
    have e1 : JbK (d :: xs) = bulk d + JbK xs := rfl
    rw [e1]
    omega
  ·cases h
theorem shp_of_trod2 {H : Type} {enc : TypeId × Value → H} {P : Program} {W : World} {sp : Nat → Bool} {held : Bool} {T : List TypeId} (hT : okT P T = true) : ∀ (n : Nat) (t : TypeId) (cs : List Value) (x : DataW H × List MemPlace), t ∈ T →
  DataW.trod enc P W 0 sp held n t cs = some x → ∃ vs, Rs (worldGh W) vs cs ∧ Shp P n t vs ∧ vtots vs ≤ bulk x.1 := by
 intro n
 induction n with
 | zero => intro t cs x _ h; simp [DataW.trod] at h
 | succ n ih =>
  intro t cs x ht h
  have hk := List.all_eq_true.1 hT t ht
  simp only [Shp]
  split at hk
  ·rename_i hu
   obtain ⟨b, rfl, rfl⟩ := DataW.trod_bool hu h
   exact ⟨[.bool b], .cons _ _ _ _ (.bool _) .nil, by exact ⟨b, rfl⟩, by exact Nat.le_refl _⟩
  ·rename_i k hu
   obtain ⟨i, rfl, rfl, hw⟩ := DataW.trod_int hu h
   exact ⟨[.int k i], .cons _ _ _ _ (.int _ _) .nil, by exact ⟨i, rfl, hw⟩, by exact Nat.le_refl _⟩
  ·rename_i hu
   obtain ⟨s, rfl, rfl, hw⟩ := DataW.trod_string hu h
   refine ⟨[.str (S.ofList s.data.toList)], .cons _ _ _ _ ?_ .nil, by exact ⟨_, rfl, by simpa [S.ofList] using hw⟩, by exact Nat.le_refl _⟩
   have h1 : (⟨⟨(S.ofList s.data.toList).toList⟩⟩ : ByteArray) = s := by
    rw [show (S.ofList s.data.toList).toList = s.data.toList from Jft _]
   have := R.str (g := worldGh W) (S.ofList s.data.toList)
   rwa [h1] at this
  ·rename_i e hu
   simp only [Bool.and_eq_true, decide_eq_true_eq, List.contains_iff_mem] at hk
   obtain ⟨he, hz⟩ := hk
   rcases DataW.trod_slice hu h with ⟨rfl, rfl⟩ | ⟨a, len, cap, elems, rest, m, hm, rfl, rfl, _, hlc, hcap, hel, hget, _⟩
   ·exact ⟨[.nils], .cons _ _ _ _ .nils .nil, by exact .inl rfl, by exact Nat.le_refl _⟩
   ·obtain rfl : m = n := by omega
    have hone : ∀ i (hi : i < len), ∃ cells vs, W.cells? 0 (a.add (i * P.cellsOf e)) (P.cellsOf e) = some cells ∧ Rs (worldGh W) vs cells ∧ Shp P m e vs ∧ vtots vs ≤ bulk (elems[i]'(by omega)).1 := fun i hi => by
     have h1 := hget i hi
     rw [List.getElem?_eq_getElem (by omega)] at h1
     simp only [Option.bind_eq_some_iff] at h1
     obtain ⟨cells, h2, h3⟩ := h1
     obtain ⟨vs, h4, h5, h6⟩ := ih e cells _ he h3
     exact ⟨cells, vs, h2, h4, h5, h6⟩
    by_cases hl : len = 0
    ·subst hl
     refine ⟨[.sl 0 [] false], .cons _ _ _ _ (.sl0 false a cap (fun h => by cases h)) .nil, by exact .inr ⟨[], rfl, Nat.zero_le _, fun l hl => by simp at hl⟩, ?_⟩
     have e1 : bulk (DataW.slice (elems.map (·.1)) (rest.map (·.1))) = JbK (elems.map (·.1)) + JbK (rest.map (·.1)) + 1 := rfl
     have e2 : vtots [V.sl 0 [] false] = 1 := rfl
     show vtots [V.sl 0 [] false] ≤ bulk (DataW.slice (elems.map (·.1)) (rest.map (·.1)))
     rw [e1, e2]
     omega
    ·have hsp : a.spot = none := by
      obtain ⟨cells, vs, h1, _, _⟩ := hone 0 (by omega)
      have := (Jdf h1 (by omega)).1
      simpa [Addr.add] using this
     obtain ⟨b, o, s⟩ := a
     simp only at hsp
     subst hsp
     have hall : ∀ k, k ≤ len → ∃ ls : List (List V), ls.length = k ∧ (∀ l ∈ ls, Shp P m e l) ∧ vtots ls.flatten ≤ JbK ((elems.take k).map (·.1)) ∧ ∃ l0, Rs (worldGh W) ls.flatten l0 ∧ l0.length = k * P.cellsOf e ∧ (worldGh W).has b o l0 := by
      intro k
      induction k with
      | zero => intro _; exact ⟨[], rfl, fun l hl => by simp at hl, by simp [vtots], [], .nil, by simp, fun i c hi => by simp at hi⟩
      | succ k ihk =>
       intro hk
       obtain ⟨ls, h1, h2, hv, l0, h3, h4, h5⟩ := ihk (by omega)
       obtain ⟨cells, vs, q1, q2, q3, q4⟩ := hone k (by omega)
       have hq := (Jdf q1 (by omega)).2
       have hlen : cells.length = P.cellsOf e := by
        simp only [World.cells?] at q1
        split at q1
        ·simpa using mapM_some_length q1
        ·cases q1
       have hab : (⟨b, o, none⟩ : Addr).add (k * P.cellsOf e) = ⟨b, o + k * P.cellsOf e, none⟩ := by
        unfold Addr.add
        split
        ·rename_i h0; rw [h0]; rfl
        ·rfl
       rw [hab] at hq
       refine ⟨ls ++ [vs], by simp [h1], fun l hl => ?_, ?_, l0 ++ cells, ?_, ?_, fun i c hi => ?_⟩
       ·rcases List.mem_append.1 hl with hl | hl
        ·exact h2 l hl
        ·simp at hl; subst hl; exact q3
       ·rw [List.take_add_one, List.getElem?_eq_getElem (by omega), List.map_append, JkY, List.flatten_append, JbX]
        have e1 : vtots [vs].flatten = vtots vs := by simp
        have e2 : JbK (List.map (·.1) (some (elems[k]'(by omega))).toList) = bulk (elems[k]'(by omega)).1 := JkZ _
        rw [e1, e2]
        omega
       ·rw [List.flatten_append]
        simpa using h3.app q2
       ·rw [List.length_append, h4, hlen, Nat.succ_mul]
       ·by_cases hi' : i < l0.length
        ·exact h5 i c (by rwa [List.getElem?_append_left hi'] at hi)
        ·rw [List.getElem?_append_right (by omega)] at hi
         have := hq (i - l0.length) c hi
         rw [show o + k * P.cellsOf e + (i - l0.length) = o + i by omega] at this
         exact this
     obtain ⟨ls, h1, h2, hv, l0, h3, h4, h5⟩ := hall len (Nat.le_refl _)
     refine ⟨[.sl ls.length ls.flatten false], .cons _ _ _ _ ?_ .nil, by exact .inr ⟨ls, rfl, by omega, h2⟩, ?_⟩
     ·rw [h1]
      exact .sl _ _ _ b o cap l0 h3 h5 hlc (fun h => by cases h)
     ·rw [List.take_of_length_le (by omega)] at hv
      have e1 : bulk (DataW.slice (elems.map (·.1)) (rest.map (·.1))) = JbK (elems.map (·.1)) + JbK (rest.map (·.1)) + 1 := rfl
      have e2 : vtots [V.sl ls.length ls.flatten false] = vtots ls.flatten + 1 := rfl
      show vtots [V.sl ls.length ls.flatten false] ≤ bulk (DataW.slice (elems.map (·.1)) (rest.map (·.1)))
      rw [e1, e2]
      omega
  ·rename_i fs hu
   simp only [Bool.and_eq_true, decide_eq_true_eq, List.all_eq_true, List.contains_iff_mem] at hk
   obtain ⟨htile, hf⟩ := hk
   obtain ⟨xs, m, hm, rfl, hlen, hxl, hget⟩ := DataW.trod_struct hu h
   obtain rfl : m = n := by omega
   obtain ⟨_, ls, h1, h2, h3, h4⟩ := Je5 (g := worldGh W) (cs := cs) (n := m) fs.toList (xs.map (·.1)) 0 _ (by simpa using hxl) htile (Nat.zero_le _) (by omega) (fun i f d hfi hd => by
    have h1 := hget i f (by simpa using hfi)
    have hi : i < fs.size := by
     have := (List.getElem?_eq_some_iff.1 hfi).1
     simpa using this
    rw [List.getElem?_eq_getElem (by omega)] at h1
    rw [List.getElem?_map, List.getElem?_eq_getElem (by omega)] at hd
    obtain rfl := Option.some.inj hd
    exact ih f.type _ _ (hf f (List.mem_of_getElem? hfi)) h1)
   refine ⟨ls.flatten, ?_, by exact ⟨ls, rfl, by simpa using h1, fun i f l hf hl => h3 i f l (by simpa using hf) hl⟩, ?_⟩
   ·simpa [← hlen] using h2
   ·have e1 : bulk (DataW.agg (xs.map (·.1))) = JbK (xs.map (·.1)) + 1 := rfl
    show vtots ls.flatten ≤ bulk (DataW.agg (xs.map (·.1)))
    rw [e1]
    omega
  ·cases hk
end Go.Vm
