/- Structs and slices that are built; zero values. -/
import Derived.Test.YtajfpccgknoafaaVmVal4
namespace Go.Vm
open Go Go.RowKit

theorem zeroT_R {P : Program} {t : TypeId} {z : V} (h : zeroT P t = some z) (g : Gh) : ∃ i c, P.info? t = some i ∧ i.zero = some c ∧ R g z c := by
  unfold zeroT at h
  split at h
  · rename_i i hi
    split at h
    · rename_i c hc
      exact ⟨i, c, hi, hc, toV_R 3 _ _ h⟩
    · simp at h
  · simp at h

theorem zeroT_run {P : Program} {t : TypeId} {z : V} (h : zeroT P t = some z) (g : Gh) : ∃ c, (∀ w, (zeroValue t).run P w = .ok c w) ∧ R g z c := by
  obtain ⟨i, c, h1, h2, h3⟩ := zeroT_R h g
  exact ⟨c, fun w => by simp [zeroValue, typeInfo, h1, h2], h3⟩

theorem mapM_run {α β : Type} {P : Program} {w : World} (f : α → Sem β) (q : α → Option β) (hf : ∀ x y, q x = some y → (f x).run P w = .ok y w) :
    ∀ (l : List α) (r : List β), traverse q l = some r → (l.mapM f).run P w = .ok r w
  | [], r, h => by simp [traverse] at h; subst h; simp
  | x :: xs, r, h => by
    obtain ⟨y, ys, h1, h2, rfl⟩ := traverse_cons h
    simp [List.mapM_cons, hf x y h1, mapM_run f q hf xs ys h2]

theorem mapM_arr {α β : Type} {P : Program} {w : World} (f : α → Sem β) (q : α → Option β) (hf : ∀ x y, q x = some y → (f x).run P w = .ok y w)
    (l : Array α) (r : List β) (h : traverse q l.toList = some r) : (l.mapM f).run P w = .ok ⟨r⟩ w := by
  rw [Array.mapM_eq_mapM_toList]
  simp [mapM_run f q hf l.toList r h]

theorem placesOf_run {P : Program} {fs : Array Field} {pl : List (Nat × Nat)} (h : placesOf P fs.toList = some pl) (w : World) :
    (fs.mapM fun f => do pure (f.offset, ← sizeOf f.type) : Sem (Array (Nat × Nat))).run P w = .ok ⟨pl⟩ w := by
  refine mapM_arr _ (fun (f : Field) => match sizeT P f.type with | some z => some (f.offset, z) | none => none) ?_ fs pl h
  intro f y hy
  split at hy
  · rename_i z hz
    simp only [Option.some.injEq] at hy; subst hy
    simp [run_sizeOf hz]
  · simp at hy

theorem vbuild_run {P : Program} {g : Gh} {t : TypeId} {ps : List (Nat × V)} {v : V} (h : vbuild P t ps = some v) {cps : List (Nat × Value)} (hp : Ps g ps cps) (w : World) :
    ∃ c, (Instr.build t ⟨cps⟩).run P w = .ok c w ∧ R g v c := by
  unfold vbuild at h
  split at h
  · rename_i z fs hz hu
    obtain ⟨zc, hzr, hzR⟩ := zeroT_run hz g
    split at h
    · rename_i pl hpl
      split at h
      · rename_i cs hf
        simp only [Option.some.injEq] at h; subst h
        obtain ⟨l', h1, h2⟩ := vfill_R hf hp hzR.cells
        refine ⟨.agg ⟨l'⟩, ?_, .agg _ _ h2⟩
        have hpr := placesOf_run hpl w
        have e : (fun (i : Nat) => (⟨pl⟩ : Array (Nat × Nat))[i]?) = fun (i : Nat) => pl[i]? := by funext i; simp
        simp only [Instr.build, Sem.run_bind, hzr, Result.andThen_ok, run_underlying hu]
        simp only [Sem.run_bind, hpr, Result.andThen_ok, e]
        have h1' : Instr.fill (fun i => pl[i]?) zc.cells cps = some ⟨l'⟩ := h1
        rw [h1']
        rfl
      · simp at h
    · simp at h
  · rename_i z n e hz hu
    obtain ⟨zc, hzr, hzR⟩ := zeroT_run hz g
    split at h
    · rename_i sz hsz
      split at h
      · rename_i cs hf
        simp only [Option.some.injEq] at h; subst h
        obtain ⟨l', h1, h2⟩ := vfill_R hf hp hzR.cells
        refine ⟨.agg ⟨l'⟩, ?_, .agg _ _ h2⟩
        simp only [Instr.build, Sem.run_bind, hzr, Result.andThen_ok, run_underlying hu, run_sizeOf hsz]
        have h1' : Instr.fill (fun i => some (i * sz, sz)) zc.cells cps = some ⟨l'⟩ := h1
        rw [h1']
        rfl
      · simp at h
    · simp at h
  · simp at h

def zerosC (z : List Value) : Nat → List Value
  | 0 => []
  | n + 1 => z ++ zerosC z n

theorem zeros_R {g : Gh} {z : List V} {l : List Value} (h : Rs g z l) : ∀ n, Rs g (zeros z n) (zerosC l n)
  | 0 => .nil
  | n + 1 => h.app (zeros_R h n)

theorem zerosC_len (z : List Value) : ∀ n, (zerosC z n).length = n * z.length
  | 0 => by simp [zerosC]
  | n + 1 => by simp [zerosC, zerosC_len z n, Nat.succ_mul, Nat.add_comm]

theorem zerosC_get (z : List Value) (hz : 0 < z.length) : ∀ (n i : Nat), i < n * z.length → (zerosC z n)[i]? = z[i % z.length]?
  | 0, i, h => by simp at h
  | n + 1, i, h => by
    simp only [zerosC, List.getElem?_append]
    split
    · rename_i hlt
      rw [Nat.mod_eq_of_lt hlt]
    · rename_i hge
      rw [zerosC_get z hz n _ (by rw [Nat.succ_mul] at h; omega)]
      congr 1
      exact (Nat.mod_eq_sub_mod (by omega)).symm

theorem zero_cells (z : List Value) (n : Nat) (hz : 0 < z.length) : ((Array.range (n * z.length)).map fun i => (⟨z⟩ : Array Value)[i % (⟨z⟩ : Array Value).size]!) = ⟨zerosC z n⟩ := by
  apply Array.ext'
  apply List.ext_getElem?
  intro i
  by_cases hi : i < n * z.length
  · rw [zerosC_get z hz n i hi]
    have hm : i % z.length < z.length := Nat.mod_lt _ hz
    simp [hi, hm]
  · have h2 : (zerosC z n)[i]? = none := by rw [List.getElem?_eq_none_iff, zerosC_len]; omega
    rw [h2]
    simp; omega

/-- a world with a new block of published cells -/
def Gh.lay (g : Gh) (b : Nat) (l : List Value) : Gh := { g with pub := fun b' o => if b' = b then l[o]? else g.pub b' o }

theorem Inv.nopub {base : Nat} {g : Gh} {s : SS} {w : World} (hi : Inv base g s w) (o : Nat) : g.pub w.heap.size o = none := by
  cases h : g.pub w.heap.size o with
  | none => rfl
  | some c => exact absurd (World.block_lt_of_cell? w _ (hi.pub _ _ _ h)) (Nat.lt_irrefl _)

theorem Gh.lay_le {base : Nat} {g : Gh} {s : SS} {w : World} (hi : Inv base g s w) (l : List Value) : g.le (g.lay w.heap.size l) := by
  refine ⟨fun b o c h => ?_, fun _ _ h => h, fun _ _ h => h⟩
  simp only [Gh.lay]
  split
  · rename_i hb
    subst hb
    rw [hi.nopub] at h; simp at h
  · exact h

theorem Gh.lay_has (g : Gh) (b : Nat) (l : List Value) : (g.lay b l).has b 0 l := fun i c h => by simpa [Gh.lay] using h

theorem Inv.lay {base : Nat} {g : Gh} {s : SS} {w : World} (hi : Inv base g s w) (l : List Value) (e : TypeId) : Inv base (g.lay w.heap.size l) s (w.alloc (.cells ⟨l⟩ e)) := by
  have hl := Gh.lay_le hi l
  have old : ∀ b, b < w.heap.size → (w.alloc (.cells ⟨l⟩ e)).heap[b]? = w.heap[b]? := fun b hb => Below.heap_alloc w _ b hb
  have lt : ∀ {b : Nat} {o : Obj}, w.heap[b]? = some o → b < w.heap.size := fun h => (Array.getElem?_eq_some_iff.1 h).1
  refine ⟨Nat.le_trans hi.size (by simp), fun b o c h => ?_, fun i cs h => ?_, fun i b h => ?_, hi.boxinj, fun k b o n h hs => ?_, hi.tokinj, hi.fresh⟩
  · simp only [Gh.lay] at h
    split at h
    · rename_i hb
      subst hb
      simp [h]
    · have := hi.pub _ _ _ h
      rw [World.cell?_alloc_lt w _ _ (World.block_lt_of_cell? w _ this)]
      exact this
  · obtain ⟨b, l', e', h1, h2, h3⟩ := hi.box i cs h
    exact ⟨b, l', e', h1, by rw [old b (lt h2)]; exact h2, h3.mono hl⟩
  · obtain ⟨h1, h2, h3⟩ := hi.boxat i b h
    refine ⟨h1, by simp; omega, fun o => ?_⟩
    simp only [Gh.lay]
    rw [if_neg (by omega)]
    exact h3 o
  · obtain ⟨h1, ⟨l', e', h2, h2'⟩, h3, h4⟩ := hi.tok k b o n h hs
    have hb := lt h2
    refine ⟨h1, ⟨l', e', by rw [old b hb]; exact h2, h2'⟩, fun j hj => ?_, h4⟩
    simp only [Gh.lay]
    rw [if_neg (by omega)]
    exact h3 j hj

theorem Own.lay {g : Gh} {s : SS} {b b' : Nat} {l : List Value} (h : Own (g.lay b' l) s b) : Own g s b := h

theorem Ext.lay {base : Nat} {g : Gh} {s : SS} {w : World} (hi : Inv base g s w) (l : List Value) (e : TypeId) : Ext base g s w (g.lay w.heap.size l) s (w.alloc (.cells ⟨l⟩ e)) :=
  ⟨Gh.lay_le hi l, Nat.le_refl _, (Below.refl _ _).alloc hi.size _, fun b hb _ => Below.heap_alloc w _ b hb, fun b _ h => h, fun i _ h => ⟨h, rfl⟩, fun _ _ => rfl⟩

theorem vbuildSlice_run {P : Program} {base : Nat} {g : Gh} {s : SS} {w : World} (hi : Inv base g s w) {t : TypeId} {n : Nat} {ps : List (Nat × V)} {v : V} (h : vbuildSlice P t n ps = some v)
    {cps : List (Nat × Value)} (hp : Ps g ps cps) :
    ∃ c l e, (Instr.buildSlice t n ⟨cps⟩).run P w = .ok c (w.alloc (.cells ⟨l⟩ e)) ∧ R (g.lay w.heap.size l) v c := by
  unfold vbuildSlice at h
  split at h
  · rename_i e hu
    split at h
    · rename_i z zv hz hzv
      split at h
      · rename_i hb
        obtain ⟨b1, b2⟩ := and3 hb
        have b1 := Nat.le_of_ble_eq_true b1
        have b2 := Nat.eq_of_beq_eq_true b2
        split at h
        · rename_i cs hf
          split at h
          · simp only [Option.some.injEq] at h; subst h
            obtain ⟨zc, hzr, hzR⟩ := zeroT_run hzv g
            have hzc := hzR.cells
            have hzl : zc.cells.toList.length = z := by rw [← hzc.len, b2]
            obtain ⟨l', h1, h2⟩ := vfill_R hf hp (zeros_R hzc n)
            refine ⟨.slice (some ⟨w.heap.size, 0, none⟩) n n, l', e, ?_, ?_⟩
            · have hle : ¬ (n * z > 2 ^ 24) := by omega
              simp only [Instr.buildSlice, Sem.run_bind, run_underlying hu, Result.andThen_ok, run_sizeOf hz, if_neg hle, Sem.run_pure]
              by_cases h0 : n * z = 0
              · have hz0 : zerosC zc.cells.toList n = [] := List.eq_nil_of_length_eq_zero (by rw [zerosC_len, hzl]; exact h0)
                rw [hz0] at h1
                rw [if_pos h0]
                simp only [h0, Sem.run_bind, Sem.run_pure, Result.andThen_ok]
                have e0 : (Array.map (fun x => (#[] : Array Value)[x % (#[] : Array Value).size]!) (Array.range 0)) = ⟨[]⟩ := by rw [Array.range_zero']; simp
                rw [e0, h1]
                simp [newRow]
              · have hp0 : 0 < zc.cells.toList.length := by rw [hzl]; exact Nat.pos_of_ne_zero (fun e => h0 (by simp [e]))
                have hzc2 := zero_cells zc.cells.toList n hp0
                rw [hzl] at hzc2
                rw [if_neg h0]
                simp only [Sem.run_bind, hzr, Sem.run_pure, Result.andThen_ok]
                have e0 : (Array.map (fun x => zc.cells[x % zc.cells.size]!) (Array.range (n * z))) = ⟨zerosC zc.cells.toList n⟩ := hzc2
                rw [e0, h1]
                simp [newRow]
            · exact .sl _ _ _ _ _ _ l' (h2.mono (Gh.lay_le hi l')) (Gh.lay_has _ _ _) (Nat.le_refl _) rfl
          · simp at h
        · simp at h
      · simp at h
    · simp at h
  · simp at h

end Go.Vm
