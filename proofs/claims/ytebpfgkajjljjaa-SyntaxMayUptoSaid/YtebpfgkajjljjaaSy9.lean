/- What an argument reads as, as the evaluator's values: bools, numbers, strings, slices and structs of such. What an argument reads as: commands, no greater than the bulk of the reading. Commands, out of their shape. -/
import Derived.Test.YtebpfgkajjljjaaVmLaid
import Derived.ChangeShapes
import Derived.Test.YtebpfgkajjljjaaSy8
import Derived.Test.YtebpfgkajjljjaaRows
namespace Go.Vm
open Go Go.RowKit

/-- of a type: no deeper than so -/
def Shp (P : Program) : Nat → TypeId → List V → Prop
  | 0, _, _ => False
  | n + 1, t, vs =>
    match P.underlying t with
    | some .bool => ∃ b, vs = [.bool b]
    | some (.int k) => ∃ i, vs = [.int k i] ∧ (Lit.int k i).wf = true
    | some .string => ∃ s : S, vs = [.str s] ∧ s.n ≤ maxLen
    | some (.slice e) => vs = [.nils] ∨ ∃ ls : List (List V), vs = [.sl ls.length ls.flatten false] ∧ ls.length ≤ maxLen ∧ ∀ l ∈ ls, Shp P n e l
    | some (.struct fs) => ∃ ls : List (List V), vs = ls.flatten ∧ ls.length = fs.size ∧ ∀ (i : Nat) f l, fs[i]? = some f → ls[i]? = some l → Shp P n f.type l
    | _ => False

def tile (P : Program) : List Field → Nat → Option Nat
  | [], c => some c
  | f :: r, c => if f.offset = c then tile P r (c + P.cellsOf f.type) else none

/-- types whose parts are among them -/
def okT (P : Program) (T : List TypeId) : Bool := T.all fun t =>
  match P.underlying t with
  | some .bool | some (.int _) | some .string => true
  | some (.slice e) => T.contains e && decide (0 < P.cellsOf e)
  | some (.struct fs) => decide (tile P fs.toList 0 = some (P.cellsOf t)) && fs.toList.all fun f => T.contains f.type
  | _ => false

theorem tile_parts {P : Program} {g : Gh} {cs : List Value} {n : Nat} : ∀ (l : List Field) (c e : Nat), tile P l c = some e → c ≤ cs.length → e ≤ cs.length → (∀ (i : Nat) f, l[i]? = some f → ∃ vs, Rs g vs ((cs.drop f.offset).take (P.cellsOf f.type)) ∧ Shp P n f.type vs) →
    c ≤ e ∧ ∃ ls : List (List V), ls.length = l.length ∧ Rs g ls.flatten ((cs.drop c).take (e - c)) ∧ ∀ (i : Nat) f x, l[i]? = some f → ls[i]? = some x → Shp P n f.type x
  | [], c, e, h, _, _, _ => by
    simp only [tile, Option.some.injEq] at h
    subst h
    exact ⟨Nat.le_refl _, [], rfl, by simpa using Rs.nil, fun i f x h => by simp at h⟩
  | f :: r, c, e, h, hc, he, hp => by
    simp only [tile] at h
    split at h
    · rename_i ho
      obtain ⟨vs, h1, h2⟩ := hp 0 f rfl
      have hmono : ∀ (l : List Field) (c e : Nat), tile P l c = some e → c ≤ e := by
        intro l
        induction l with
        | nil => intro c e h; simp only [tile, Option.some.injEq] at h; omega
        | cons f r ih =>
          intro c e h
          simp only [tile] at h
          split at h
          · have := ih _ _ h; omega
          · cases h
      have hce := hmono r _ _ h
      obtain ⟨h3, ls, h4, h5, h6⟩ := tile_parts r (c + P.cellsOf f.type) e h (by omega) he (fun i g hg => hp (i + 1) g (by simpa using hg))
      refine ⟨by omega, vs :: ls, by simp [h4], ?_, fun i g x hg hx => ?_⟩
      · rw [ho] at h1
        have := h1.app h5
        rw [List.flatten_cons]
        have e2 : List.take (P.cellsOf f.type) (List.drop c cs) ++ List.take (e - (c + P.cellsOf f.type)) (List.drop (c + P.cellsOf f.type) cs) = List.take (e - c) (List.drop c cs) := by
          rw [← List.drop_drop, ← List.take_add]
          congr 1; omega
        rwa [e2] at this
      · cases i with
        | zero => simp at hg hx; subst hg; subst hx; exact h2
        | succ i => exact h6 i g x (by simpa using hg) (by simpa using hx)
    · cases h

theorem shp_of_trod {H : Type} {enc : TypeId × Value → H} {P : Program} {W : World} {sp : Nat → Bool} {held : Bool} {T : List TypeId} (hT : okT P T = true) : ∀ (n : Nat) (t : TypeId) (cs : List Value) (x : DataW H × List MemPlace), t ∈ T →
    DataW.trod enc P W 0 sp held n t cs = some x → ∃ vs, Rs (worldGh W) vs cs ∧ Shp P n t vs := by
  intro n
  induction n with
  | zero => intro t cs x _ h; simp [DataW.trod] at h
  | succ n ih =>
    intro t cs x ht h
    have hk := List.all_eq_true.1 hT t ht
    simp only [Shp]
    split at hk
    · rename_i hu
      obtain ⟨b, rfl, _⟩ := DataW.trod_bool hu h
      exact ⟨[.bool b], .cons _ _ _ _ (.bool _) .nil, by exact ⟨b, rfl⟩⟩
    · rename_i k hu
      obtain ⟨i, rfl, _, hw⟩ := DataW.trod_int hu h
      exact ⟨[.int k i], .cons _ _ _ _ (.int _ _) .nil, by exact ⟨i, rfl, hw⟩⟩
    · rename_i hu
      obtain ⟨s, rfl, _, hw⟩ := DataW.trod_string hu h
      refine ⟨[.str (S.ofList s.data.toList)], .cons _ _ _ _ ?_ .nil, by exact ⟨_, rfl, by simpa [S.ofList] using hw⟩⟩
      have h1 : (⟨⟨(S.ofList s.data.toList).toList⟩⟩ : ByteArray) = s := by
        rw [show (S.ofList s.data.toList).toList = s.data.toList from dec_enc _]
      have := R.str (g := worldGh W) (S.ofList s.data.toList)
      rwa [h1] at this
    · rename_i e hu
      simp only [Bool.and_eq_true, decide_eq_true_eq, List.contains_iff_mem] at hk
      obtain ⟨he, hz⟩ := hk
      rcases DataW.trod_slice hu h with ⟨rfl, _⟩ | ⟨a, len, cap, elems, rest, m, hm, rfl, _, _, hlc, hcap, hel, hget, _⟩
      · exact ⟨[.nils], .cons _ _ _ _ .nils .nil, by exact .inl rfl⟩
      · obtain rfl : m = n := by omega
        have hone : ∀ i, i < len → ∃ cells vs, W.cells? 0 (a.add (i * P.cellsOf e)) (P.cellsOf e) = some cells ∧ Rs (worldGh W) vs cells ∧ Shp P m e vs := fun i hi => by
          have h1 := hget i hi
          rw [List.getElem?_eq_getElem (by omega)] at h1
          simp only [Option.bind_eq_some_iff] at h1
          obtain ⟨cells, h2, h3⟩ := h1
          obtain ⟨vs, h4, h5⟩ := ih e cells _ he h3
          exact ⟨cells, vs, h2, h4, h5⟩
        by_cases hl : len = 0
        · subst hl
          exact ⟨[.sl 0 [] false], .cons _ _ _ _ (.sl0 false a cap (fun h => by cases h)) .nil, by exact .inr ⟨[], rfl, Nat.zero_le _, fun l hl => by simp at hl⟩⟩
        · have hsp : a.spot = none := by
            obtain ⟨cells, vs, h1, _, _⟩ := hone 0 (by omega)
            have := (world_has h1 (by omega)).1
            simpa [Addr.add] using this
          obtain ⟨b, o, s⟩ := a
          simp only at hsp
          subst hsp
          have hall : ∀ k, k ≤ len → ∃ ls : List (List V), ls.length = k ∧ (∀ l ∈ ls, Shp P m e l) ∧ ∃ l0, Rs (worldGh W) ls.flatten l0 ∧ l0.length = k * P.cellsOf e ∧ (worldGh W).has b o l0 := by
            intro k
            induction k with
            | zero => intro _; exact ⟨[], rfl, fun l hl => by simp at hl, [], .nil, by simp, fun i c hi => by simp at hi⟩
            | succ k ihk =>
              intro hk
              obtain ⟨ls, h1, h2, l0, h3, h4, h5⟩ := ihk (by omega)
              obtain ⟨cells, vs, q1, q2, q3⟩ := hone k (by omega)
              have hq := (world_has q1 (by omega)).2
              have hlen : cells.length = P.cellsOf e := by
                simp only [World.cells?] at q1
                split at q1
                · simpa using mapM_some_length q1
                · cases q1
              have hab : (⟨b, o, none⟩ : Addr).add (k * P.cellsOf e) = ⟨b, o + k * P.cellsOf e, none⟩ := by
                unfold Addr.add
                split
                · rename_i h0; rw [h0]; rfl
                · rfl
              rw [hab] at hq
              refine ⟨ls ++ [vs], by simp [h1], fun l hl => ?_, l0 ++ cells, ?_, ?_, fun i c hi => ?_⟩
              · rcases List.mem_append.1 hl with hl | hl
                · exact h2 l hl
                · simp at hl; subst hl; exact q3
              · rw [List.flatten_append]
                simpa using h3.app q2
              · rw [List.length_append, h4, hlen, Nat.succ_mul]
              · by_cases hi' : i < l0.length
                · exact h5 i c (by rwa [List.getElem?_append_left hi'] at hi)
                · rw [List.getElem?_append_right (by omega)] at hi
                  have := hq (i - l0.length) c hi
                  rw [show o + k * P.cellsOf e + (i - l0.length) = o + i by omega] at this
                  exact this
          obtain ⟨ls, h1, h2, l0, h3, h4, h5⟩ := hall len (Nat.le_refl _)
          refine ⟨[.sl ls.length ls.flatten false], .cons _ _ _ _ ?_ .nil, by exact .inr ⟨ls, rfl, by omega, h2⟩⟩
          rw [h1]
          exact .sl _ _ _ b o cap l0 h3 h5 hlc (fun h => by cases h)
    · rename_i fs hu
      simp only [Bool.and_eq_true, decide_eq_true_eq, List.all_eq_true, List.contains_iff_mem] at hk
      obtain ⟨htile, hf⟩ := hk
      obtain ⟨xs, m, hm, _, hlen, hxl, hget⟩ := DataW.trod_struct hu h
      obtain rfl : m = n := by omega
      obtain ⟨_, ls, h1, h2, h3⟩ := tile_parts (g := worldGh W) (cs := cs) (n := m) fs.toList 0 _ htile (Nat.zero_le _) (by omega) (fun i f hfi => by
        have h1 := hget i f (by simpa using hfi)
        have hi : i < fs.size := by
          have := (List.getElem?_eq_some_iff.1 hfi).1
          simpa using this
        rw [List.getElem?_eq_getElem (by omega)] at h1
        exact ih f.type _ _ (hf f (List.mem_of_getElem? hfi)) h1)
      refine ⟨ls.flatten, ?_, by exact ⟨ls, rfl, by simpa using h1, fun i f l hf hl => h3 i f l (by simpa using hf) hl⟩⟩
      simpa [← hlen] using h2
    · cases hk

/-- an argument -/
theorem arg_of_trod {H : Type} {enc : TypeId × Value → H} {P : Program} {W : World} {sp : Nat → Bool} {held : Bool} {T : List TypeId} (hT : okT P T = true) {t : TypeId} {v : Value} {d : DataW H} {p : List MemPlace} (ht : t ∈ T)
    (h : DataW.Trod enc P W 0 sp held t v d p) (hagg : isAggT P t = some true → ∃ cs, v = .agg cs) (hone : isAggT P t = some false → ∀ cs, v ≠ .agg cs) :
    ∃ n vs x, Shp P n t vs ∧ R (worldGh W) x v ∧ ((isAggT P t = some true ∧ x = .agg vs) ∨ (isAggT P t = some false ∧ vs = [x])) := by
  obtain ⟨n, h⟩ := h
  obtain ⟨vs, h1, h2⟩ := shp_of_trod hT n t _ _ ht h
  cases ha : isAggT P t with
  | none =>
    unfold isAggT at ha
    cases n with
    | zero => simp [Shp] at h2
    | succ n =>
      simp only [Shp] at h2
      cases hu : P.underlying t with
      | none => rw [hu] at h2; exact h2.elim
      | some d => rw [hu] at ha; cases d <;> simp at ha
  | some b =>
    cases b with
    | true =>
      obtain ⟨cs, rfl⟩ := hagg ha
      exact ⟨n, vs, .agg vs, h2, .agg _ _ h1, .inl ⟨rfl, rfl⟩⟩
    | false =>
      have hc : v.cells = #[v] := by
        cases v <;> first | rfl | exact absurd rfl (hone ha _)
      rw [hc] at h1
      cases h1 with
      | cons x _ vs _ hx hr =>
        cases hr
        exact ⟨n, [x], x, h2, hx, .inr ⟨rfl, rfl⟩⟩
end Go.Vm

namespace Go.Vm
open Go Go.Proofs Go.RowKit Go.Sy

mutual
/-- how much a value holds: each value one, each letter one -/
def vtot : V → Nat
  | .str s => s.n + 1
  | .sl _ cs _ => vtots cs + 1
  | .cp cs => vtots cs + 1
  | .agg cs => vtots cs + 1
  | .tup cs => vtots cs + 1
  | .fn _ a b => vtots a + vtots b + 2
  | .iface _ x => vtot x + 1
  | _ => 1
def vtots : List V → Nat
  | [] => 0
  | a :: r => vtot a + vtots r
end
mutual
theorem vsz_le : ∀ v : V, vsz v + 1 ≤ 3 * vtot v
  | .sl m cs ex => by have := vszs_le cs; rw [vsz, vtot]; omega
  | .cp cs => by have := vszs_le cs; rw [vsz, vtot]; omega
  | .agg cs => by have := vszs_le cs; rw [vsz, vtot]; omega
  | .tup cs => by have := vszs_le cs; rw [vsz, vtot]; omega
  | .fn f a b => by have := vszs_le a; have := vszs_le b; rw [vsz, vtot]; omega
  | .iface t x => by have := vsz_le x; rw [vsz, vtot]; omega
  | .str s => by show 1 + 1 ≤ 3 * (s.n + 1); omega
  | .bool _ => by show 1 + 1 ≤ 3 * 1; omega
  | .int _ _ => by show 1 + 1 ≤ 3 * 1; omega
  | .nilp => by show 1 + 1 ≤ 3 * 1; omega
  | .nils => by show 1 + 1 ≤ 3 * 1; omega
  | .nilf => by show 1 + 1 ≤ 3 * 1; omega
  | .nili => by show 1 + 1 ≤ 3 * 1; omega
  | .nilm => by show 1 + 1 ≤ 3 * 1; omega
  | .ms _ _ _ _ _ => by show 1 + 1 ≤ 3 * 1; omega
  | .ptr _ _ => by show 1 + 1 ≤ 3 * 1; omega
  | .yld _ => by show 1 + 1 ≤ 3 * 1; omega
  | .mapp _ => by show 1 + 1 ≤ 3 * 1; omega
theorem vszs_le : ∀ l : List V, vszs l ≤ 3 * vtots l + 1
  | [] => by rw [vszs, vtots]; omega
  | a :: r => by have := vsz_le a; have := vszs_le r; rw [vszs, vtots]; omega
end
theorem vtot_pos (v : V) : 1 ≤ vtot v := by have := vsz_le v; omega
theorem vtots_app : ∀ l m : List V, vtots (l ++ m) = vtots l + vtots m
  | [], m => by simp [vtots]
  | a :: l, m => by rw [List.cons_append, vtots, vtots, vtots_app l m]; omega
theorem vtots_len : ∀ l : List V, l.length ≤ vtots l
  | [] => by simp [vtots]
  | a :: l => by have := vtot_pos a; have := vtots_len l; simp only [vtots, List.length_cons]; omega
theorem vtots_mem {α : Type} {f : α → List V} : ∀ {l : List α} {a : α}, a ∈ l → vtots (f a) ≤ vtots (l.flatMap f)
  | b :: l, a, h => by
    rw [List.flatMap_cons, vtots_app]
    rcases List.mem_cons.1 h with rfl | h
    · omega
    · have := vtots_mem (f := f) h; omega
theorem vtots_flat {α : Type} {f : α → List V} {z : Nat} : ∀ (l : List α), (∀ a ∈ l, (f a).length = z) → l.length * z ≤ vtots (l.flatMap f)
  | [], _ => by simp
  | b :: l, h => by
    rw [List.flatMap_cons, vtots_app, List.length_cons, Nat.succ_mul]
    have h1 := vtots_len (f b)
    rw [h b (by simp)] at h1
    have := vtots_flat l (fun a ha => h a (by simp [ha]))
    omega

abbrev bulk {H : Type} (d : DataW H) : Nat := Go.Proofs.Ytebpfgkajjljjaa.Rows.uptoBulk d
abbrev bulks {H : Type} (l : List (DataW H)) : Nat := Go.Proofs.Ytebpfgkajjljjaa.Rows.uptoBulkAll l
theorem bulks_app {H : Type} (l r : List (DataW H)) : bulks (l ++ r) = bulks l + bulks r := by
  induction l with
  | nil => simp [bulks, Go.Proofs.Ytebpfgkajjljjaa.Rows.uptoBulkAll]
  | cons x l ih => simp only [bulks, List.cons_append, Go.Proofs.Ytebpfgkajjljjaa.Rows.uptoBulkAll] at ih ⊢; omega
theorem bulks_one {H : Type} (d : DataW H) : bulks [d] = bulk d := by simp [bulks, Go.Proofs.Ytebpfgkajjljjaa.Rows.uptoBulkAll]
theorem bulks_take {H : Type} (l : List (DataW H)) (k : Nat) : bulks (l.take k) ≤ bulks l := by
  have := bulks_app (l.take k) (l.drop k)
  rw [List.take_append_drop] at this
  omega

theorem tile_parts2 {H : Type} {P : Program} {g : Gh} {cs : List Value} {n : Nat} : ∀ (l : List Field) (xs : List (DataW H)) (c e : Nat), xs.length = l.length → tile P l c = some e → c ≤ cs.length → e ≤ cs.length → (∀ (i : Nat) f d, l[i]? = some f → xs[i]? = some d → ∃ vs, Rs g vs ((cs.drop f.offset).take (P.cellsOf f.type)) ∧ Shp P n f.type vs ∧ vtots vs ≤ bulk d) →
    c ≤ e ∧ ∃ ls : List (List V), ls.length = l.length ∧ Rs g ls.flatten ((cs.drop c).take (e - c)) ∧ (∀ (i : Nat) f x, l[i]? = some f → ls[i]? = some x → Shp P n f.type x) ∧ vtots ls.flatten ≤ bulks xs
  | [], xs, c, e, hx, h, _, _, _ => by
    simp only [tile, Option.some.injEq] at h
    subst h
    exact ⟨Nat.le_refl _, [], rfl, by simpa using Rs.nil, fun i f x h => by simp at h, by simp [vtots]⟩
  | f :: r, [], c, e, hx, h, hc, he, hp => by simp at hx
  | f :: r, d :: xs, c, e, hx, h, hc, he, hp => by
    simp only [tile] at h
    split at h
    · rename_i ho
      obtain ⟨vs, h1, h2, hv⟩ := hp 0 f d rfl rfl
      have hmono : ∀ (l : List Field) (c e : Nat), tile P l c = some e → c ≤ e := by
        intro l
        induction l with
        | nil => intro c e h; simp only [tile, Option.some.injEq] at h; omega
        | cons f r ih =>
          intro c e h
          simp only [tile] at h
          split at h
          · have := ih _ _ h; omega
          · cases h
      have hce := hmono r _ _ h
      obtain ⟨h3, ls, h4, h5, h6, h7⟩ := tile_parts2 r xs (c + P.cellsOf f.type) e (by simpa using hx) h (by omega) he (fun i g d hg hd => hp (i + 1) g d (by simpa using hg) (by simpa using hd))
      refine ⟨by omega, vs :: ls, by simp [h4], ?_, fun i g x hg hx => ?_, ?_⟩
      · rw [ho] at h1
        have := h1.app h5
        rw [List.flatten_cons]
        have e2 : List.take (P.cellsOf f.type) (List.drop c cs) ++ List.take (e - (c + P.cellsOf f.type)) (List.drop (c + P.cellsOf f.type) cs) = List.take (e - c) (List.drop c cs) := by
          rw [← List.drop_drop, ← List.take_add]
          congr 1; omega
        rwa [e2] at this
      · cases i with
        | zero => simp at hg hx; subst hg; subst hx; exact h2
        | succ i => exact h6 i g x (by simpa using hg) (by simpa using hx)
      · rw [List.flatten_cons, vtots_app]
        have e1 : bulks (d :: xs) = bulk d + bulks xs := rfl
        rw [e1]
        omega
    · cases h

theorem shp_of_trod2 {H : Type} {enc : TypeId × Value → H} {P : Program} {W : World} {sp : Nat → Bool} {held : Bool} {T : List TypeId} (hT : okT P T = true) : ∀ (n : Nat) (t : TypeId) (cs : List Value) (x : DataW H × List MemPlace), t ∈ T →
    DataW.trod enc P W 0 sp held n t cs = some x → ∃ vs, Rs (worldGh W) vs cs ∧ Shp P n t vs ∧ vtots vs ≤ bulk x.1 := by
  intro n
  induction n with
  | zero => intro t cs x _ h; simp [DataW.trod] at h
  | succ n ih =>
    intro t cs x ht h
    have hk := List.all_eq_true.1 hT t ht
    simp only [Shp]
    split at hk
    · rename_i hu
      obtain ⟨b, rfl, rfl⟩ := DataW.trod_bool hu h
      exact ⟨[.bool b], .cons _ _ _ _ (.bool _) .nil, by exact ⟨b, rfl⟩, by exact Nat.le_refl _⟩
    · rename_i k hu
      obtain ⟨i, rfl, rfl, hw⟩ := DataW.trod_int hu h
      exact ⟨[.int k i], .cons _ _ _ _ (.int _ _) .nil, by exact ⟨i, rfl, hw⟩, by exact Nat.le_refl _⟩
    · rename_i hu
      obtain ⟨s, rfl, rfl, hw⟩ := DataW.trod_string hu h
      refine ⟨[.str (S.ofList s.data.toList)], .cons _ _ _ _ ?_ .nil, by exact ⟨_, rfl, by simpa [S.ofList] using hw⟩, by exact Nat.le_refl _⟩
      have h1 : (⟨⟨(S.ofList s.data.toList).toList⟩⟩ : ByteArray) = s := by
        rw [show (S.ofList s.data.toList).toList = s.data.toList from dec_enc _]
      have := R.str (g := worldGh W) (S.ofList s.data.toList)
      rwa [h1] at this
    · rename_i e hu
      simp only [Bool.and_eq_true, decide_eq_true_eq, List.contains_iff_mem] at hk
      obtain ⟨he, hz⟩ := hk
      rcases DataW.trod_slice hu h with ⟨rfl, rfl⟩ | ⟨a, len, cap, elems, rest, m, hm, rfl, rfl, _, hlc, hcap, hel, hget, _⟩
      · exact ⟨[.nils], .cons _ _ _ _ .nils .nil, by exact .inl rfl, by exact Nat.le_refl _⟩
      · obtain rfl : m = n := by omega
        have hone : ∀ i (hi : i < len), ∃ cells vs, W.cells? 0 (a.add (i * P.cellsOf e)) (P.cellsOf e) = some cells ∧ Rs (worldGh W) vs cells ∧ Shp P m e vs ∧ vtots vs ≤ bulk (elems[i]'(by omega)).1 := fun i hi => by
          have h1 := hget i hi
          rw [List.getElem?_eq_getElem (by omega)] at h1
          simp only [Option.bind_eq_some_iff] at h1
          obtain ⟨cells, h2, h3⟩ := h1
          obtain ⟨vs, h4, h5, h6⟩ := ih e cells _ he h3
          exact ⟨cells, vs, h2, h4, h5, h6⟩
        by_cases hl : len = 0
        · subst hl
          refine ⟨[.sl 0 [] false], .cons _ _ _ _ (.sl0 false a cap (fun h => by cases h)) .nil, by exact .inr ⟨[], rfl, Nat.zero_le _, fun l hl => by simp at hl⟩, ?_⟩
          have e1 : bulk (DataW.slice (elems.map (·.1)) (rest.map (·.1))) = bulks (elems.map (·.1)) + bulks (rest.map (·.1)) + 1 := rfl
          have e2 : vtots [V.sl 0 [] false] = 1 := rfl
          show vtots [V.sl 0 [] false] ≤ bulk (DataW.slice (elems.map (·.1)) (rest.map (·.1)))
          rw [e1, e2]
          omega
        · have hsp : a.spot = none := by
            obtain ⟨cells, vs, h1, _, _⟩ := hone 0 (by omega)
            have := (world_has h1 (by omega)).1
            simpa [Addr.add] using this
          obtain ⟨b, o, s⟩ := a
          simp only at hsp
          subst hsp
          have hall : ∀ k, k ≤ len → ∃ ls : List (List V), ls.length = k ∧ (∀ l ∈ ls, Shp P m e l) ∧ vtots ls.flatten ≤ bulks ((elems.take k).map (·.1)) ∧ ∃ l0, Rs (worldGh W) ls.flatten l0 ∧ l0.length = k * P.cellsOf e ∧ (worldGh W).has b o l0 := by
            intro k
            induction k with
            | zero => intro _; exact ⟨[], rfl, fun l hl => by simp at hl, by simp [vtots], [], .nil, by simp, fun i c hi => by simp at hi⟩
            | succ k ihk =>
              intro hk
              obtain ⟨ls, h1, h2, hv, l0, h3, h4, h5⟩ := ihk (by omega)
              obtain ⟨cells, vs, q1, q2, q3, q4⟩ := hone k (by omega)
              have hq := (world_has q1 (by omega)).2
              have hlen : cells.length = P.cellsOf e := by
                simp only [World.cells?] at q1
                split at q1
                · simpa using mapM_some_length q1
                · cases q1
              have hab : (⟨b, o, none⟩ : Addr).add (k * P.cellsOf e) = ⟨b, o + k * P.cellsOf e, none⟩ := by
                unfold Addr.add
                split
                · rename_i h0; rw [h0]; rfl
                · rfl
              rw [hab] at hq
              refine ⟨ls ++ [vs], by simp [h1], fun l hl => ?_, ?_, l0 ++ cells, ?_, ?_, fun i c hi => ?_⟩
              · rcases List.mem_append.1 hl with hl | hl
                · exact h2 l hl
                · simp at hl; subst hl; exact q3
              · rw [List.take_add_one, List.getElem?_eq_getElem (by omega), List.map_append, bulks_app, List.flatten_append, vtots_app]
                have e1 : vtots [vs].flatten = vtots vs := by simp
                have e2 : bulks (List.map (·.1) (some (elems[k]'(by omega))).toList) = bulk (elems[k]'(by omega)).1 := bulks_one _
                rw [e1, e2]
                omega
              · rw [List.flatten_append]
                simpa using h3.app q2
              · rw [List.length_append, h4, hlen, Nat.succ_mul]
              · by_cases hi' : i < l0.length
                · exact h5 i c (by rwa [List.getElem?_append_left hi'] at hi)
                · rw [List.getElem?_append_right (by omega)] at hi
                  have := hq (i - l0.length) c hi
                  rw [show o + k * P.cellsOf e + (i - l0.length) = o + i by omega] at this
                  exact this
          obtain ⟨ls, h1, h2, hv, l0, h3, h4, h5⟩ := hall len (Nat.le_refl _)
          refine ⟨[.sl ls.length ls.flatten false], .cons _ _ _ _ ?_ .nil, by exact .inr ⟨ls, rfl, by omega, h2⟩, ?_⟩
          · rw [h1]
            exact .sl _ _ _ b o cap l0 h3 h5 hlc (fun h => by cases h)
          · rw [List.take_of_length_le (by omega)] at hv
            have e1 : bulk (DataW.slice (elems.map (·.1)) (rest.map (·.1))) = bulks (elems.map (·.1)) + bulks (rest.map (·.1)) + 1 := rfl
            have e2 : vtots [V.sl ls.length ls.flatten false] = vtots ls.flatten + 1 := rfl
            show vtots [V.sl ls.length ls.flatten false] ≤ bulk (DataW.slice (elems.map (·.1)) (rest.map (·.1)))
            rw [e1, e2]
            omega
    · rename_i fs hu
      simp only [Bool.and_eq_true, decide_eq_true_eq, List.all_eq_true, List.contains_iff_mem] at hk
      obtain ⟨htile, hf⟩ := hk
      obtain ⟨xs, m, hm, rfl, hlen, hxl, hget⟩ := DataW.trod_struct hu h
      obtain rfl : m = n := by omega
      obtain ⟨_, ls, h1, h2, h3, h4⟩ := tile_parts2 (g := worldGh W) (cs := cs) (n := m) fs.toList (xs.map (·.1)) 0 _ (by simpa using hxl) htile (Nat.zero_le _) (by omega) (fun i f d hfi hd => by
        have h1 := hget i f (by simpa using hfi)
        have hi : i < fs.size := by
          have := (List.getElem?_eq_some_iff.1 hfi).1
          simpa using this
        rw [List.getElem?_eq_getElem (by omega)] at h1
        rw [List.getElem?_map, List.getElem?_eq_getElem (by omega)] at hd
        obtain rfl := Option.some.inj hd
        exact ih f.type _ _ (hf f (List.mem_of_getElem? hfi)) h1)
      refine ⟨ls.flatten, ?_, by exact ⟨ls, rfl, by simpa using h1, fun i f l hf hl => h3 i f l (by simpa using hf) hl⟩, ?_⟩
      · simpa [← hlen] using h2
      · have e1 : bulk (DataW.agg (xs.map (·.1))) = bulks (xs.map (·.1)) + 1 := rfl
        show vtots ls.flatten ≤ bulk (DataW.agg (xs.map (·.1)))
        rw [e1]
        omega
    · cases hk
end Go.Vm

namespace Go.Vm
open Go Go.Proofs Go.RowKit Go.Sy

theorem list_of {α : Type} {f : α → List V} {Q : α → Prop} : ∀ {ls : List (List V)}, (∀ l ∈ ls, ∃ a, l = f a ∧ Q a) → ∃ al : List α, ls = al.map f ∧ ∀ a ∈ al, Q a
  | [], _ => ⟨[], rfl, fun a h => by simp at h⟩
  | l :: ls, h => by
    obtain ⟨a, rfl, ha⟩ := h l (by simp)
    obtain ⟨al, he, hal⟩ := list_of (ls := ls) (fun l hl => h l (List.mem_cons_of_mem _ hl))
    subst he
    exact ⟨a :: al, rfl, fun b hb => by
      rcases List.mem_cons.1 hb with rfl | hb
      · exact ha
      · exact hal b hb⟩
theorem vtots_part {ls : List (List V)} {l : List V} (h : l ∈ ls) : vtots l ≤ vtots ls.flatten := by
  have := vtots_mem (f := fun x : List V => x) h
  rwa [List.flatMap_id'] at this

/-- a row of such -/
theorem row_of {α : Type} {f : α → List V} {Q : α → Prop} {n : Nat} {t e : TypeId} {vs : List V} {B : Nat} (hu : Try.prog.underlying t = some (.slice e)) (h : Shp Try.prog (n + 1) t vs) (hb : vtots vs ≤ B)
    (hp : ∀ l, Shp Try.prog n e l → vtots l ≤ B → ∃ a, l = f a ∧ Q a) : ∃ x al, vs = [x] ∧ Row f x al ∧ (∀ a ∈ al, Q a) ∧ vtots (al.flatMap f) ≤ B ∧ vtot x ≤ B := by
  simp only [Shp, hu] at h
  rcases h with rfl | ⟨ls, rfl, _, hls⟩
  · exact ⟨.nils, [], rfl, .nils, fun a ha => by simp at ha, by simp [vtots], by simpa [vtots, vtot] using hb⟩
  · have e2 : vtots [V.sl ls.length ls.flatten false] = vtots ls.flatten + 1 := rfl
    rw [e2] at hb
    obtain ⟨al, rfl, hal⟩ := list_of (f := f) (Q := Q) (fun l hl => hp l (hls l hl) (by have := vtots_part hl; omega))
    have e3 : (al.map f).flatten = al.flatMap f := (List.flatMap_def ..).symm
    rw [e3] at hb
    refine ⟨_, al, rfl, ?_, hal, by omega, hb⟩
    rw [e3, List.length_map]
    exact .sl al false

theorem part_of {n : Nat} {vs : List V} (h : Shp Try.prog n 33 vs) : ∃ p : Wp, vs = p.cells := by
  cases n with
  | zero => exact h.elim
  | succ n =>
    simp only [Shp, Try.underlying33] at h
    obtain ⟨ls, rfl, hlen, hf⟩ := h
    match ls, hlen, hf with
    | [l0, l1, l2], _, hf =>
      have h0 := hf 0 _ l0 rfl rfl
      have h1 := hf 1 _ l1 rfl rfl
      have h2 := hf 2 _ l2 rfl rfl
      cases n with
      | zero => exact h0.elim
      | succ n =>
        simp only [Shp, Try.underlying4, Try.underlying9] at h0 h1 h2
        obtain ⟨v, rfl⟩ := h0
        obtain ⟨t, rfl, _⟩ := h1
        obtain ⟨q, rfl⟩ := h2
        exact ⟨⟨v, t, q⟩, rfl⟩

theorem textP_le : ∀ l : List Wp, (textP l).length ≤ vtots (l.flatMap Wp.cells)
  | [] => by simp [textP]
  | p :: l => by
    have := textP_le l
    rw [List.flatMap_cons, vtots_app, show textP (p :: l) = p.t.toList ++ textP l from rfl, List.length_append, S.len]
    have e : vtots p.cells = 1 + ((p.t.n + 1) + (1 + 0)) := rfl
    omega

theorem word_of {n : Nat} {vs : List V} (h : Shp Try.prog n 31 vs) (hb : vtots vs ≤ 1048576) : ∃ w : Ww, vs = w.cells ∧ w.ok ∧ w.small := by
  cases n with
  | zero => exact h.elim
  | succ n =>
    simp only [Shp, Try.underlying31] at h
    obtain ⟨ls, rfl, hlen, hf⟩ := h
    match ls, hlen, hf, hb with
    | [l0, l1], _, hf, hb =>
      have h0 := hf 0 _ l0 rfl rfl
      have h1 := hf 1 _ l1 rfl rfl
      cases n with
      | zero => exact h0.elim
      | succ n =>
        have hb0 : vtots l0 ≤ 1048576 := by
          have := vtots_part (ls := [l0, l1]) (l := l0) (by simp); omega
        obtain ⟨x, l, rfl, hrow, _, hl, hx⟩ := row_of (f := Wp.cells) (Q := fun _ => True) Try.underlying29 h0 hb0 (fun l hl _ => by
          obtain ⟨p, hp⟩ := part_of hl
          exact ⟨p, hp, trivial⟩)
        simp only [Shp, Try.underlying3] at h1
        obtain ⟨a, rfl, _⟩ := h1
        refine ⟨⟨x, a, l⟩, rfl, hrow, ?_, ?_, ?_⟩
        · have := vtots_flat (f := Wp.cells) (z := 3) l (fun p _ => rfl)
          show l.length < 900000
          omega
        · have := textP_le l
          show (textP l).length < 2000000
          omega
        · have := vsz_le x
          show vsz x < 10000000
          omega

theorem cmd_of : ∀ (n : Nat) {vs : List V}, Shp Try.prog n 25 vs → vtots vs ≤ 1048576 → ∃ c : Cw, vs = c.cells ∧ c.ok ∧ c.small := by
  intro n
  induction n using Nat.strongRecOn with
  | ind n ih =>
  intro vs h hb
  cases n with
  | zero => exact h.elim
  | succ n =>
    simp only [Shp, Try.underlying25] at h
    obtain ⟨ls, rfl, hlen, hf⟩ := h
    match ls, hlen, hf, hb with
    | [l0, l1, l2, l3, l4], _, hf, hb =>
      have h0 := hf 0 _ l0 rfl rfl
      have h1 := hf 1 _ l1 rfl rfl
      have h2 := hf 2 _ l2 rfl rfl
      have h3 := hf 3 _ l3 rfl rfl
      have h4 := hf 4 _ l4 rfl rfl
      cases n with
      | zero => exact h0.elim
      | succ n =>
        have b2 : vtots l2 ≤ 1048576 := by have := vtots_part (ls := [l0, l1, l2, l3, l4]) (l := l2) (by simp); omega
        have b3 : vtots l3 ≤ 1048576 := by have := vtots_part (ls := [l0, l1, l2, l3, l4]) (l := l3) (by simp); omega
        have b4 : vtots l4 ≤ 1048576 := by have := vtots_part (ls := [l0, l1, l2, l3, l4]) (l := l4) (by simp); omega
        obtain ⟨wv, ws, rfl, hw, hws, hwt, hwx⟩ := row_of (f := Ww.cells) (Q := fun w => w.ok ∧ w.small) Try.underlying22 h3 b3 (fun l hl hb => word_of hl hb)
        obtain ⟨kv, kids, rfl, hkv, hks, hkt, hkx⟩ := row_of (f := Cw.cells) (Q := fun c => c.ok ∧ c.small) Try.underlying23 h4 b4 (fun l hl hb => ih n (by omega) hl hb)
        simp only [Shp, Try.underlying5, Try.underlying3, Try.underlying9] at h0 h1 h2
        obtain ⟨k, rfl, hk⟩ := h0
        obtain ⟨a, rfl, _⟩ := h1
        obtain ⟨nm, rfl, _⟩ := h2
        have hk2 : 0 ≤ k ∧ k ≤ 255 := by simpa [Lit.wf, IntKind.min, IntKind.max, IntKind.signed, IntKind.bits] using hk
        have hkk : k = ((k.toNat : Nat) : Int) := by omega
        refine ⟨.mk k.toNat a nm wv ws kv kids, ?_, .mk _ _ _ _ _ _ _ (by omega) hw (fun w hw => (hws w hw).1) hkv (fun c hc => (hks c hc).1), .mk _ _ _ _ _ _ _ ?_ ?_ ?_ ?_ ?_ (fun w hw => (hws w hw).2) (fun c hc => (hks c hc).2)⟩
        · rw [show Cw.cells (.mk k.toNat a nm wv ws kv kids) = [.int .u8 (k.toNat : Int), .int .i64 a, .str nm, wv, kv] from rfl, ← hkk]
          rfl
        · have e : vtots [V.str nm] = nm.n + 1 + 0 := rfl
          omega
        · have := vtots_flat (f := Ww.cells) (z := 2) ws (fun p _ => rfl)
          omega
        · have := vtots_flat (f := Cw.cells) (z := 5) kids (fun c _ => c.len5)
          omega
        · have := vsz_le wv
          omega
        · have := vsz_le kv
          omega
end Go.Vm
