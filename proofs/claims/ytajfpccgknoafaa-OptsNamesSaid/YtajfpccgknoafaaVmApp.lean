/- Append, make, calls without a body. -/
import Derived.Test.YtajfpccgknoafaaVmEff
namespace Go.Vm
open Go Go.RowKit

theorem firstCells_lies {P : Program} {w : World} {c : Value} {n : Nat} {l : List Value} (h : Lies w c n l) {z : Nat} (hl : l.length = n * z) : (Builtin.firstCells z n c).run P w = .ok ⟨l⟩ w := by
  cases h with
  | none c' => exact run_firstCells_none w z 0 0 c'
  | some a n c l h => exact run_firstCells_some w z n a n c l hl h

theorem Lies.drew {w : World} {c : Value} {n : Nat} {l : List Value} (h : Lies w c n l) : Lies w.drew c n l := by
  cases h with
  | none c' => exact .none _
  | some a n c l h => exact .some _ _ _ _ h

theorem lenOf_lies {P : Program} {w : World} {n c : Nat} {b : Option Addr} : (Builtin.lenOf (.slice b n c)).run P w = .ok n w := rfl

section
variable {P : Program} {w : World} {t u ty e : TypeId} {i : TypeInfo}

theorem run_append_zero (ht : P.underlying t = some (.slice e)) (hu : (∃ e', P.underlying u = some (.slice e')) ∨ P.underlying u = some .string) (hi : P.info? e = some i) (b : Option Addr) (n cap : Nat) (hc : n ≤ cap) (x : Value)
    (hlen : (Builtin.lenOf x).run P w = .ok 0 w) (hx : (Builtin.firstCells i.size 0 x).run P w = .ok ⟨[]⟩ w) :
    (Builtin.append_ #[t, u] ty #[.slice b n cap, x]).run P w = .ok (.slice b n cap) w := by
  rcases hu with ⟨e', hu⟩ | hu <;> cases b <;> simp [Builtin.append_, run_underlying ht, run_underlying hu, sizeOf, typeInfo, hi, hlen, hx, hc, storeCells]

theorem run_append_room2 (ht : P.underlying t = some (.slice e)) (hu : (∃ e', P.underlying u = some (.slice e')) ∨ P.underlying u = some .string) (hi : P.info? e = some i) (b o n cap : Nat) (cur : List Value) (e' : TypeId)
    (hg : w.heap[b]? = some (.cells ⟨cur⟩ e' (0, 0))) (x : Value) (m : Nat) (news : List Value)
    (hlen : (Builtin.lenOf x).run P w = .ok m w) (hx : (Builtin.firstCells i.size m x).run P w = .ok ⟨news⟩ w) (h1 : ∀ c ∈ news, c.oneCell' = true) (hroom : n + m ≤ cap) (hfit : o + n * i.size + news.length ≤ cur.length) :
    (Builtin.append_ #[t, u] ty #[.slice (some ⟨b, o, none⟩) n cap, x]).run P w =
      .ok (.slice (some ⟨b, o, none⟩) (n + m) cap) (w.setRow b ⟨cur.take (o + n * i.size) ++ news ++ cur.drop (o + n * i.size + news.length)⟩) := by
  have hst := run_storeCells_at P b (o + n * i.size) e' news 0 ⟨cur⟩ w hg (by simpa using hfit) h1
  simp only [Nat.add_zero] at hst
  have hadd : (⟨b, o, none⟩ : Addr).add (n * i.size) = ⟨b, o + n * i.size, none⟩ := Addr.add_lit _ _ _
  rcases hu with ⟨e', hu⟩ | hu <;> simp [Builtin.append_, run_underlying ht, run_underlying hu, sizeOf, typeInfo, hi, hlen, hroom, hx, hadd, hst]

theorem run_append_grow2 (ht : P.underlying t = some (.slice e)) (hu : (∃ e', P.underlying u = some (.slice e')) ∨ P.underlying u = some .string) (hi : P.info? e = some i) {z : Value} (hz : i.zero = some z) (b : Option Addr) (n cap : Nat) (x : Value) (m : Nat) (olds news : List Value)
    (hlen : (Builtin.lenOf x).run P w = .ok m w) (hx : (Builtin.firstCells i.size m x).run P w.drew = .ok ⟨news⟩ w.drew) (ho : (Builtin.firstCells i.size n (.slice b n cap)).run P w.drew = .ok ⟨olds⟩ w.drew)
    (hg : cap < n + m) (hb : (n + m) * i.bytes ≤ maxBytes) (hm : n + m ≤ maxBytes) :
    (Builtin.append_ #[t, u] ty #[.slice b n cap, x]).run P w =
      .ok (.slice (some ⟨w.heap.size, 0, none⟩) (n + m) (grownCap w (n + m) cap e))
        (w.drew.alloc (.cells ⟨olds ++ news ++ (Builtin.zeroCells z.cells (grownCap w (n + m) cap e - (n + m))).toList⟩ e)) := by
  unfold maxBytes at hb hm
  have hn : ¬ (n + m ≤ cap) := by omega
  have h63' : ¬ (9223372036854775807 < ((n : Int) + (m : Int))) := by omega
  have hfit := growslice_fits (need := n + m) (old := cap) (bytes := i.bytes) hg (by omega)
  have h48' : ¬ (281474976710656 < Builtin.nextslicecap (n + m) cap * i.bytes) := by omega
  have harr : (⟨olds⟩ : Array Value) ++ (⟨news⟩ : Array Value) ++ Builtin.zeroCells z.cells (grownCap w (n + m) cap e - (n + m)) = ⟨olds ++ news ++ (Builtin.zeroCells z.cells (grownCap w (n + m) cap e - (n + m))).toList⟩ := by
    apply Array.ext'; simp
  rw [← harr]
  rcases hu with ⟨e', hu⟩ | hu <;> simp [Builtin.append_, run_underlying ht, run_underlying hu, sizeOf, typeInfo, zeroValue, hi, hz, hlen, hn, h63', h48', Question.forced, hx, ho, newRow, grownCap]
  all_goals (congr 2; apply Array.ext'; simp)
end

theorem R.slice_form {g : Gh} {v : V} {c : Value} (h : R g v c) {st : St} {z : Nat} {cs : List V} {n : Nat} (hs : sliceCells st z v = some (cs, n)) : ∃ b cap, c = .slice b n cap ∧ n ≤ cap := by
  unfold sliceCells at hs
  split at hs
  · cases h
    simp only [Option.some.injEq, Prod.mk.injEq] at hs
    obtain ⟨_, rfl⟩ := hs
    exact ⟨none, 0, rfl, by omega⟩
  · split at hs
    · simp only [Option.some.injEq, Prod.mk.injEq] at hs
      obtain ⟨_, rfl⟩ := hs
      cases h with
      | sl _ _ _ b o cap l hr hp hc ht => exact ⟨_, cap, rfl, hc⟩
    · simp at hs
  · split at hs
    · split at hs
      · simp only [Option.some.injEq, Prod.mk.injEq] at hs
        obtain ⟨_, rfl⟩ := hs
        cases h with
        | ms _ _ _ _ b co cap hb hc ho he => exact ⟨_, cap, rfl, hc⟩
      · simp at hs
    · simp at hs
  · simp at hs

/-- the cells of what is appended -/
theorem srcCells_R {P : Program} {base : Nat} {g : Gh} {st : St} {w : World} (hi : Inv base g st.abs w) {z : Nat} {x : V} {cs : List V} {m : Nat} (h : srcCells st z x = some (cs, m)) {c : Value} (hx : R g x c) :
    ∃ l, Rs g cs l ∧ l.length = m * z ∧ (Builtin.lenOf c).run P w = .ok m w ∧ (∀ W : World, W.heap = w.heap → (Builtin.firstCells z m c).run P W = .ok ⟨l⟩ W) := by
  unfold srcCells at h
  split at h
  · rename_i bs
    cases hx
    split at h
    · rename_i hz
      have hz := Nat.eq_of_beq_eq_true hz
      subst hz
      simp only [Option.some.injEq, Prod.mk.injEq] at h
      obtain ⟨rfl, rfl⟩ := h
      refine ⟨bs.map fun b => .int .u8 b.toNat, ?_, by simp, by simp [Builtin.lenOf]; rfl, fun W _ => ?_⟩
      · unfold bytesV
        induction bs with
        | nil => exact .nil
        | cons b bs ih => exact .cons _ _ _ _ (.int _ _) ih
      · simp [Builtin.firstCells, extract_bytes]
    · simp at h
  · obtain ⟨l, h1, h2, h3⟩ := sliceCells_R hi h hx
    refine ⟨l, h1, h2, ?_, fun W hW => ?_⟩
    · cases h3 <;> rfl
    · refine firstCells_lies ?_ h2
      cases h3 with
      | none c => exact .none _
      | some a n c l h => exact .some _ _ _ _ (fun j v hj => by
          have := h j v hj
          rw [World.cell?_of_block (w := w) (by rw [hW])]; exact this)

theorem vappend_run {P : Program} {base : Nat} {g : Gh} {st st' : St} {w : World} (hi : Inv base g st.abs w) {t u ty : TypeId} {s x v : V} (h : vappend P st t s x = some (v, st'))
    (hu : (∃ e', P.underlying u = some (.slice e')) ∨ P.underlying u = some .string) {cs cx : Value} (hs : R g s cs) (hx : R g x cx) :
    ∃ g' c w', (Builtin.append_ #[t, u] ty #[cs, cx]).run P w = .ok c w' ∧ R g' v c ∧ Inv base g' st'.abs w' ∧ Ext base g st.abs w g' st'.abs w' := by
  unfold vappend at h
  split at h
  rotate_left
  · simp at h
  rename_i e ht
  split at h
  rotate_left
  · simp at h
  rename_i i hie
  split at h
  rotate_left
  · simp at h
  rename_i zv hz0 hzv
  split at h
  rotate_left
  · simp at h
  rename_i news m olds n hsrc hsl
  obtain ⟨ln, hn1, hn2, hn3, hn4⟩ := srcCells_R (P := P) hi hsrc hx
  obtain ⟨lo, ho1, ho2, ho3⟩ := sliceCells_R hi hsl hs
  obtain ⟨b, cap, rfl, hcap⟩ := hs.slice_form hsl
  split at h
  · rename_i hm
    have hm := Nat.eq_of_beq_eq_true hm
    subst hm
    simp only [Option.some.injEq, Prod.mk.injEq] at h
    obtain ⟨rfl, rfl⟩ := h
    have hnil : ln = [] := List.eq_nil_of_length_eq_zero (by simpa using hn2)
    subst hnil
    exact ⟨g, _, w, run_append_zero ht hu hie b n cap hcap cx hn3 (hn4 w rfl), hs, hi, Ext.refl _ _ _ _⟩
  · rename_i hm
    split at h
    rotate_left
    · simp at h
    rename_i hbb
    obtain ⟨b123, b4⟩ := and3 hbb
    obtain ⟨b12, b3⟩ := and3 b123
    obtain ⟨b1, b2⟩ := and3 b12
    have b1 := Nat.le_of_ble_eq_true b1
    have b2 := Nat.le_of_ble_eq_true b2
    have b3 := Nat.eq_of_beq_eq_true b3
    have hz1 : 0 < i.size := by
      cases hz2 : i.size with
      | zero => rw [hz2] at hz0; simp at hz0
      | succ k => exact Nat.succ_pos k
    obtain ⟨i', zc, hi', hzc, hzR⟩ := zeroT_R hzv g
    have : i' = i := by rw [hie] at hi'; simpa using hi'.symm
    subst this
    have hzcl : zc.cells.size = i'.size := by rw [← Array.length_toList, ← hzR.cells.len, b3]
    -- it grows: a new block
    have grow : ∀ (st1 : St), Inv base g st1.abs w → st1.ctr = st.ctr → (∀ b', Own g st1.abs b' → Own g st.abs b') → st1.box = st.box → cap < n + m →
        ∃ g' c w', (Builtin.append_ #[t, u] ty #[.slice b n cap, cx]).run P w = .ok c w' ∧ R g' (.sl (n + m) (olds ++ news) (.tok st.ctr i'.size)) c ∧ Inv base g' ({ st1 with ctr := st1.ctr + 1 } : St).abs w' ∧ Ext base g st.abs w g' ({ st1 with ctr := st1.ctr + 1 } : St).abs w' := by
      intro st1 hi1 hc1 hown hbox hg
      have hrun := run_append_grow2 (ty := ty) ht hu hie hzc b n cap cx m lo ln hn3 (hn4 w.drew rfl) (firstCells_lies ho3.drew ho2) hg b1 b2
      let L := lo ++ ln ++ (Builtin.zeroCells zc.cells (grownCap w (n + m) cap e - (n + m))).toList
      have hL : L.length = grownCap w (n + m) cap e * i'.size := by
        have hge := grownCap_ge w (n + m) cap e
        simp only [L, List.length_append, ho2, hn2, Array.length_toList, size_zeroCells, hzcl, ← Nat.add_mul]
        congr 1; omega
      have hnp := hi.nopub
      obtain ⟨j1, j2⟩ := hi1.end_ (w' := w.drew.alloc (.cells ⟨L⟩ e)) (b := w.heap.size) (p := 0) (news := lo ++ ln) (L := L) (e := e) (by simp) hi.size (heap_alloc_new w.drew _) (fun b' hb' _ => Below.heap_alloc w.drew _ b' hb')
        (fun k c hk => by
          rw [Nat.zero_add]
          show (lo ++ ln ++ _)[k]? = some c
          rw [List.getElem?_append_left (List.getElem?_eq_some_iff.1 hk).1]; exact hk)
        (fun o _ => hnp o) (fun o c h => by rw [hnp] at h; simp at h) (fun k h => by have := (hi.boxat k _ h).2.1; omega)
        (fun k o n' h => by
          cases hsp : st1.abs.spent k with
          | true => rfl
          | false =>
            obtain ⟨_, ⟨l', e', h2, _⟩, _⟩ := hi1.tok k _ _ _ h hsp
            exact absurd (Array.getElem?_eq_some_iff.1 h2).1 (Nat.lt_irrefl _))
      simp only [Nat.zero_add] at j1 j2
      have hctr : st1.abs.ctr = st.ctr := hc1
      refine ⟨_, _, _, hrun, ?_, j1, ⟨j2, by show st.ctr ≤ st1.ctr + 1; omega, (Below.refl _ _).drew.alloc hi.size _, fun b' hb' _ => Below.heap_alloc w.drew _ b' hb', fun b' hb' ho => ?_, fun k hk hn' => ?_, fun k hk => ?_⟩⟩
      · refine .sl _ _ _ _ _ _ (lo ++ ln) ((ho1.app hn1).mono j2) (fun k c hk => ?_) (grownCap_ge _ _ _ _) (.inr ⟨L.length, ?_, ?_, ?_, hz1⟩)
        · have hkl := (List.getElem?_eq_some_iff.1 hk).1
          have : (if w.heap.size = w.heap.size ∧ 0 ≤ 0 + k ∧ 0 + k < 0 + (lo ++ ln).length then (lo ++ ln)[0 + k - 0]? else g.pub w.heap.size (0 + k)) = some c := by
            rw [if_pos ⟨rfl, Nat.zero_le _, by omega⟩]
            simpa using hk
          exact this
        · show (if st.ctr = st1.abs.ctr then some _ else _) = _
          rw [if_pos hctr.symm]
          simp [(ho1.app hn1).len]
        · rw [(ho1.app hn1).len, List.length_append, ho2, hn2, Nat.add_mul]
        · rw [Nat.zero_add, hL]
      · rcases ho with ⟨k, ks, h1, h2⟩ | ⟨k, o, n', h1, h2⟩
        · exact hown _ (.inl ⟨k, ks, h1, h2⟩)
        · have h1 : (if k = st1.abs.ctr then some (w.heap.size, _, _) else g.tok k) = some (b', o, n') := h1
          split at h1
          · simp only [Option.some.injEq, Prod.mk.injEq] at h1
            omega
          · exact hown _ (.inr ⟨k, o, n', h1, h2⟩)
      · refine ⟨?_, rfl⟩
        show st1.box.get k = none
        rw [hbox]; exact hn'
      · show (if k = st1.abs.ctr then _ else g.tok k) = g.tok k
        have : k < st.ctr := hk
        rw [if_neg (by omega)]
    have easy : st'= { st with ctr := st.ctr + 1 } → v = .sl (n + m) (olds ++ news) (.tok st.ctr i'.size) → cap < n + m →
        ∃ g' c w', (Builtin.append_ #[t, u] ty #[.slice b n cap, cx]).run P w = .ok c w' ∧ R g' v c ∧ Inv base g' st'.abs w' ∧ Ext base g st.abs w g' st'.abs w' := by
      rintro rfl rfl hg
      exact grow st hi rfl (fun _ h => h) rfl hg
    have hm0 : 0 < m := Nat.pos_of_ne_zero (fun e => by subst e; simp at hm)
    split at h
    · simp only [Option.some.injEq, Prod.mk.injEq] at h
      cases hs
      exact easy h.2.symm h.1.symm (by omega)
    · simp only [Option.some.injEq, Prod.mk.injEq] at h
      cases hs with
      | sl _ _ _ b o cap l hr hp hc htl => exact easy h.2.symm h.1.symm (by have : cap = n := htl; omega)
    · simp only [Option.some.injEq, Prod.mk.injEq] at h
      cases hs with
      | ms _ _ _ _ b co cap hb hc ho he => exact easy h.2.symm h.1.symm (by have := he rfl; omega)
    · -- the one that may write behind its end
      rename_i n0 cells k es
      split at h
      rotate_left
      · simp at h
      rename_i hes hsp hk
      have hes := Nat.eq_of_beq_eq_true hes
      have hk : k < st.ctr := by simpa [Nat.blt_eq] using hk
      simp only [Option.some.injEq, Prod.mk.injEq] at h
      obtain ⟨rfl, rfl⟩ := h
      have hspent : st.abs.spent k = false := by simp [St.abs, hsp]
      have habs : ({ st with spent := st.spent.put k () } : St).abs = st.abs.spend k := by
        simp only [St.abs, SS.spend]
        congr 1
        funext j
        rw [Tr.get_put]
        by_cases hj : j = k <;> simp [hj]
      have hi1 : Inv base g ({ st with spent := st.spent.put k () } : St).abs w := by rw [habs]; exact hi.spend hk
      have hown1 : ∀ b', Own g ({ st with spent := st.spent.put k () } : St).abs b' → Own g st.abs b' := by
        intro b' ho
        rw [habs] at ho
        rcases ho with ⟨j, ks, h1, h2⟩ | ⟨j, o, n', h1, h2⟩
        · exact .inl ⟨j, ks, h1, h2⟩
        · have h2 : (if j = k then true else st.abs.spent j) = false := h2
          split at h2
          · simp at h2
          · exact .inr ⟨j, o, n', h1, h2⟩
      by_cases hg : cap < n + m
      · exact grow { st with spent := st.spent.put k () } hi1 rfl hown1 rfl hg
      · cases hs with
        | sl _ _ _ b o cap l hr hp hc htl =>
          rcases htl with htl | ⟨bs, t1, t2, t3, t4⟩
          · omega
          · have hsl' := hsl
            unfold sliceCells at hsl'
            simp only at hsl'
            split at hsl'
            rotate_left
            · simp at hsl'
            simp only [Option.some.injEq, Prod.mk.injEq] at hsl'
            obtain ⟨rfl, _⟩ := hsl'
            subst hes
            obtain ⟨q1, ⟨L0, e0, q2, q3⟩, q4, q5⟩ := hi.tok k b _ bs t1 hspent
            have hll := hr.len
            have hfit : o + n * i'.size + ln.length ≤ L0.length := by
              rw [q3, ← t3, hn2, Nat.add_assoc, ← Nat.add_mul]
              exact Nat.add_le_add_left (Nat.mul_le_mul_right _ (by omega)) _
            have hrun := run_append_room2 (ty := ty) ht hu hie b o n cap L0 e0 q2 cx m ln hn3 (hn4 w rfl) (hn1.ones b4) (by omega) hfit
            let p := o + n * i'.size
            let L := L0.take p ++ ln ++ L0.drop (p + ln.length)
            have hLl : L.length = L0.length := by
              simp only [L, List.length_append, List.length_take, List.length_drop]; omega
            have htk : (L0.take p).length = p := by rw [List.length_take]; omega
            have hsz2 : b < w.heap.size := (Array.getElem?_eq_some_iff.1 q2).1
            have q4' : ∀ j, p ≤ j → g.pub b j = none := fun j hj => q4 j (by rw [t2]; exact hj)
            obtain ⟨j1, j2⟩ := hi1.end_ (w' := w.setRow b ⟨L⟩) (b := b) (p := p) (news := ln) (L := L) (e := e0) (by simp) q1 (setRow_heap _ _ _ _ _ _ q2) (fun b' _ hne => setRow_other _ _ _ _ hne)
              (fun j c hj => by
                show (L0.take p ++ ln ++ _)[p + j]? = some c
                have hjl := (List.getElem?_eq_some_iff.1 hj).1
                rw [List.append_assoc, List.getElem?_append_right (by rw [htk]; omega), htk, Nat.add_sub_cancel_left, List.getElem?_append_left hjl]
                exact hj)
              q4'
              (fun j c hj => by
                have hjp : j < p := by
                  rcases Nat.lt_or_ge j p with h | h
                  · exact h
                  · rw [q4' j h] at hj; simp at hj
                have hc := hi.pub _ _ _ hj
                have hc' : L0[j]? = some c := by simpa [World.cell?, q2] using hc
                show (L0.take p ++ ln ++ _)[j]? = some c
                rw [List.append_assoc, List.getElem?_append_left (by rw [htk]; exact hjp), List.getElem?_take, if_pos hjp]
                exact hc')
              q5
              (fun k' o' n' h => by
                rw [habs]
                show (if k' = k then true else st.abs.spent k') = true
                by_cases hk' : k' = k
                · rw [if_pos hk']
                · rw [if_neg hk']
                  cases hsp' : st.abs.spent k' with
                  | true => rfl
                  | false => exact absurd (hi.tokinj k' k b o' n' _ _ h t1 hsp' hspent) hk')
            have hownb : Own g st.abs b := .inr ⟨k, _, _, t1, hspent⟩
            refine ⟨_, _, _, hrun, ?_, j1, ⟨j2, Nat.le_succ _, Below.setRow (.refl _ _) q1 _, fun b' hb' ho => setRow_other _ _ _ _ (fun e => ho (e ▸ hownb)), fun b' hb' ho => ?_, fun j hj hn' => ⟨hn', rfl⟩, fun j hj => ?_⟩⟩
            · refine .sl _ _ _ _ _ _ (l ++ ln) ((hr.app hn1).mono j2) (fun j c hj => ?_) (by omega) (.inr ⟨L.length, ?_, ?_, ?_, hz1⟩)
              · rw [List.getElem?_append] at hj
                split at hj
                · exact j2.pub _ _ _ (hp j c hj)
                · rename_i hge
                  have hjl := (List.getElem?_eq_some_iff.1 hj).1
                  have e1 : o + j = p + (j - l.length) := by
                    have : l.length = n * i'.size := by rw [← hll, t2]
                    simp only [p]; omega
                  show (if b = b ∧ p ≤ o + j ∧ o + j < p + ln.length then ln[o + j - p]? else g.pub b (o + j)) = some c
                  rw [if_pos ⟨rfl, by omega, by omega⟩, e1, Nat.add_sub_cancel_left]
                  exact hj
              · show (if st.ctr = st.ctr then some _ else _) = _
                rw [if_pos rfl]
                have : (cells ++ news).length = n * i'.size + ln.length := by rw [List.length_append, t2, hn1.len]
                rw [this]
                simp only [p, Nat.add_assoc]
              · rw [List.length_append, t2, hn1.len, hn2, Nat.add_mul]
              · rw [hLl, q3]; exact t3
            · rcases ho with ⟨j, ks, h1, h2⟩ | ⟨j, o', n', h1, h2⟩
              · exact .inl ⟨j, ks, h1, h2⟩
              · have h1 : (if j = st.ctr then some (b, _, _) else g.tok j) = some (b', o', n') := h1
                split at h1
                · simp only [Option.some.injEq, Prod.mk.injEq] at h1
                  exact h1.1 ▸ hownb
                · exact hown1 _ (.inr ⟨j, o', n', h1, h2⟩)
            · have : j < st.ctr := hj
              show (if j = st.ctr then _ else g.tok j) = g.tok j
              rw [if_neg (by omega)]
    · simp at h

end Go.Vm
