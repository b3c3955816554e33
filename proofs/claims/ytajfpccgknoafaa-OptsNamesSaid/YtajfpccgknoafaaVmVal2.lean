/- Slices, indexes, parts, loads. -/
import Derived.Test.YtajfpccgknoafaaVmVal
namespace Go.Vm
open Go Go.RowKit

theorem asNat_R {g : Gh} {v : V} {n : Nat} (h : asNat v = some n) {c : Value} (hr : R g v c) : ∃ k, c = .int k (n : Int) := by
  cases v <;> simp [asNat] at h
  rename_i k i
  cases i with
  | ofNat m => simp at h; subst h; cases hr; exact ⟨k, rfl⟩
  | negSucc m => simp at h

inductive ROpt (g : Gh) : Option V → Option Value → Prop
  | none : ROpt g none none
  | some (v : V) (c : Value) (h : R g v c) : ROpt g (some v) (some c)

theorem evOpt_R {g : Gh} {N : Nat} {fr : Fr} {a : Act} (h : FR g N fr a) {x : Option Operand} {v : Option V} (hv : evOpt fr x = some v) : ROpt g v (x.map a.eval) := by
  cases x with
  | none => simp [evOpt] at hv; subst hv; exact .none
  | some x =>
    simp only [evOpt] at hv
    split at hv
    · rename_i u hu
      simp only [Option.some.injEq] at hv; subst hv
      exact .some _ _ (ev_R h hu)
    · simp at hv

theorem run_sliceBound {P : Program} {w : World} (k : IntKind) (n y : Nat) (code : BoundsCode) (h : n ≤ y) : (Instr.sliceBound (.int k (n : Int)) y code).run P w = .ok n w := by
  have : (0 : Int) ≤ (n : Int) ∧ (n : Int) ≤ (y : Int) := ⟨by omega, by omega⟩
  simp [Instr.sliceBound, asIntOf, this]

theorem run_sliceBounds {P : Program} {w : World} {g : Gh} (isSlice : Bool) {len cap l h : Nat} {lo hi : Option V} {clo chi : Option Value} (hlo : ROpt g lo clo) (hhi : ROpt g hi chi)
    (e1 : bound lo 0 = some l) (e2 : bound hi len = some h) (h1 : l ≤ h) (h2 : h ≤ len) (h3 : len ≤ cap) :
    (Instr.sliceBounds isSlice len cap clo chi none).run P w = .ok (l, h, cap) w := by
  cases hlo with
  | none =>
    simp [bound] at e1; subst e1
    cases hhi with
    | none => simp [bound] at e2; subst e2; simp [Instr.sliceBounds]
    | some v c hv =>
      obtain ⟨k, rfl⟩ := asNat_R e2 hv
      simp [Instr.sliceBounds, run_sliceBound k h cap _ (Nat.le_trans h2 h3)]
  | some u d hu =>
    obtain ⟨k, rfl⟩ := asNat_R e1 hu
    cases hhi with
    | none => simp [bound] at e2; subst e2; simp [Instr.sliceBounds, run_sliceBound k l _ _ h1]
    | some v c hv =>
      obtain ⟨k', rfl⟩ := asNat_R e2 hv
      simp [Instr.sliceBounds, run_sliceBound k l _ _ h1, run_sliceBound k' h cap _ (Nat.le_trans h2 h3)]

theorem run_sizeOf {P : Program} {t : TypeId} {z : Nat} (h : sizeT P t = some z) (w : World) : (sizeOf t).run P w = .ok z w := by
  unfold sizeT at h
  split at h
  · rename_i i hi
    simp only [Option.some.injEq] at h; subst h
    simp [sizeOf, typeInfo, hi]
  · simp at h

theorem extract_bytes (l : List UInt8) (i j : Nat) : (⟨⟨l⟩⟩ : ByteArray).extract i j = ⟨⟨(l.drop i).take (j - i)⟩⟩ := by
  apply ByteArray.ext
  simp

theorem and3 {a b : Bool} (h : (a && b) = true) : a = true ∧ b = true := by simpa using h

theorem vslice_run {P : Program} {g : Gh} {t : TypeId} {x v : V} {lo hi : Option V} {cx : Value} {clo chi : Option Value} (h : vslice P t x lo hi = some v)
    (hx : R g x cx) (hlo : ROpt g lo clo) (hhi : ROpt g hi chi) (w : World) : ∃ c, (Instr.sliceAt t cx clo chi none).run P w = .ok c w ∧ R g v c := by
  unfold vslice at h
  split at h
  · -- a string
    rename_i s hu
    cases hx
    split at h
    · rename_i l hh e1 e2
      split at h
      · rename_i hb
        obtain ⟨b1, b2⟩ := and3 hb
        have b1 := Nat.le_of_ble_eq_true b1
        have b2 := Nat.le_of_ble_eq_true b2
        simp only [Option.some.injEq] at h; subst h
        refine ⟨.string ⟨⟨(s.drop l).take (hh - l)⟩⟩, ?_, .str _⟩
        have hs : (⟨⟨s⟩⟩ : ByteArray).size = s.length := rfl
        simp [Instr.sliceAt, run_underlying hu, Instr.slice, hs, run_sliceBounds false hlo hhi e1 e2 b1 b2 (Nat.le_refl _), extract_bytes]
      · simp at h
    · simp at h
  · -- published data
    rename_i n cs tl e hu
    cases hx with
    | sl _ _ _ b o cap l0 hr hp hc ht =>
      split at h
      · rename_i l hh z e1 e2 e3
        split at h
        · rename_i hb
          obtain ⟨b12, b3⟩ := and3 hb
          obtain ⟨b1, b2⟩ := and3 b12
          have b1 := Nat.le_of_ble_eq_true b1
          have b2 := Nat.le_of_ble_eq_true b2
          have b3 := Nat.eq_of_beq_eq_true b3
          simp only [Option.some.injEq] at h; subst h
          refine ⟨.slice (if cap = l then some ⟨b, o, none⟩ else some ⟨b, o + l * z, none⟩) (hh - l) (cap - l), ?_, ?_⟩
          · simp [Instr.sliceAt, run_underlying hu, Instr.slice, run_sliceBounds true hlo hhi e1 e2 b1 b2 hc, run_sizeOf e3, Addr.add_lit]
          · by_cases hcl : cap = l
            · have e0 : hh - l = 0 := by omega
              rw [if_pos hcl]
              simp only [e0, Nat.zero_mul]
              refine .sl _ _ _ b o _ [] (by simpa [Vm.sub] using Rs.nil) (fun i c hi => by simp at hi) (by omega) ?_
              split
              · rename_i hhn
                have hhn := Nat.eq_of_beq_eq_true hhn
                cases tl with
                | exact => show cap - l = 0; omega
                | tok k es => exact .inl (by omega)
                | unk => trivial
              · trivial
            · rw [if_neg hcl]
              refine .sl _ _ _ b (o + l * z) _ ((l0.drop (l * z)).take ((hh - l) * z)) (hr.sub _ _) ((hp.drop _).take _) (by omega) ?_
              split
              · rename_i hhn
                have hhn := Nat.eq_of_beq_eq_true hhn
                cases tl with
                | exact => have : cap = n := ht; show cap - l = hh - l; omega
                | unk => trivial
                | tok k es =>
                  rcases ht with ht | ⟨bs, t1, t2, t3, t4⟩
                  · exact .inl (by omega)
                  · refine .inr ⟨bs, ?_⟩
                    have hlen : (Vm.sub cs (l * z) ((hh - l) * z)).length = (hh - l) * z := by
                      simp only [Vm.sub, List.length_take, List.length_drop, b3, hhn]
                      rw [← Nat.sub_mul]
                      exact Nat.min_self _
                    rw [hlen]
                    subst hhn
                    by_cases hn0 : hh = 0
                    · subst hn0
                      have hl0 : l = 0 := by omega
                      subst hl0
                      simp only [Nat.zero_mul] at t2 b3 ⊢
                      rw [b3] at t1
                      exact ⟨by simpa using t1, by simp, by simpa using t3, t4⟩
                    · have hez : es = z := by
                        have : hh * es = hh * z := by rw [← t2, b3]
                        exact Nat.eq_of_mul_eq_mul_left (by omega) this
                      subst hez
                      have h5 : l * es + (hh - l) * es = hh * es := by rw [← Nat.add_mul]; congr 1; omega
                      have h6 : l * es + (cap - l) * es = cap * es := by rw [← Nat.add_mul]; congr 1; omega
                      refine ⟨?_, rfl, ?_, t4⟩
                      · rw [t1, b3, Nat.add_assoc, h5]
                      · rw [Nat.add_assoc, h6]; exact t3
              · trivial
        · simp at h
      · simp at h
  · -- a slice over a variable
    rename_i id off n ex e hu
    cases hx with
    | ms _ _ _ _ b co cap hb0 hc ho he =>
      split at h
      · rename_i l hh z e1 e2 e3
        split at h
        · rename_i hb
          obtain ⟨b1, b2⟩ := and3 hb
          have b1 := Nat.le_of_ble_eq_true b1
          have b2 := Nat.le_of_ble_eq_true b2
          simp only [Option.some.injEq] at h; subst h
          refine ⟨.slice (if cap = l then some ⟨b, co, none⟩ else some ⟨b, co + l * z, none⟩) (hh - l) (cap - l), ?_, ?_⟩
          · simp [Instr.sliceAt, run_underlying hu, Instr.slice, run_sliceBounds true hlo hhi e1 e2 b1 b2 hc, run_sizeOf e3, Addr.add_lit]
          · have hex : (ex && Nat.beq hh n) = true → cap - l = hh - l := fun hx => by
              obtain ⟨x1, x2⟩ := and3 hx
              have := he x1
              have := Nat.eq_of_beq_eq_true x2
              omega
            by_cases hcl : cap = l
            · rw [if_pos hcl]
              exact .ms _ _ _ _ b co _ hb0 (by omega) (.inl (by omega)) hex
            · rw [if_neg hcl]
              refine .ms _ _ _ _ b _ _ hb0 (by omega) ?_ hex
              rcases ho with ho | ho
              · exact absurd (show cap = l by omega) hcl
              · exact .inr (by rw [ho])
        · simp at h
      · simp at h
  · -- nil
    rename_i e hu
    cases hx
    split at h
    · rename_i z e1 e2 e3
      simp only [Option.some.injEq] at h; subst h
      refine ⟨.slice none 0 0, ?_, .nils⟩
      simp [Instr.sliceAt, run_underlying hu, Instr.slice, run_sliceBounds true hlo hhi e1 e2 (Nat.le_refl _) (Nat.le_refl _) (Nat.le_refl _), run_sizeOf e3]
    · simp at h
  · -- an array's variable
    rename_i id off n e hu
    cases hx with
    | ptr _ _ b hb0 =>
      split at h
      · rename_i l hh z e1 e2 e3
        split at h
        · rename_i hb
          obtain ⟨b1, b2⟩ := and3 hb
          have b1 := Nat.le_of_ble_eq_true b1
          have b2 := Nat.le_of_ble_eq_true b2
          simp only [Option.some.injEq] at h; subst h
          refine ⟨.slice (some (if n = l then ⟨b, off, none⟩ else ⟨b, off + l * z, none⟩)) (hh - l) (n - l), ?_, ?_⟩
          · simp [Instr.sliceAt, run_underlying hu, Instr.sureAddr, run_sliceBounds false hlo hhi e1 e2 b1 b2 (Nat.le_refl _), run_sizeOf e3, Addr.add_lit]
          · have hex : Nat.beq hh n = true → n - l = hh - l := fun hx => by
              have := Nat.eq_of_beq_eq_true hx
              omega
            by_cases hcl : n = l
            · rw [if_pos hcl]
              exact .ms _ _ _ _ b off _ hb0 (by omega) (.inl (by omega)) hex
            · rw [if_neg hcl]
              exact .ms _ _ _ _ b _ _ hb0 (by omega) (.inr rfl) hex
        · simp at h
      · simp at h
  · simp at h

end Go.Vm
