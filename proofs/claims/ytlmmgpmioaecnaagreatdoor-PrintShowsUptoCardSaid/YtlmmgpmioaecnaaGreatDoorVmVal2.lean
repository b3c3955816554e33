/- Slices, indexes, parts, loads. -/
import Derived.Test.YtlmmgpmioaecnaaGreatDoorVmVal
namespace Go.Vm
open Go Go.RowKit
theorem Qs {g : Gh} {v : V} {n : Nat} (h : Ja6 v = some n) {c : Value} (hr : R g v c) : ∃ k, c = .int k (n : Int) := by
 cases v <;> simp [Ja6] at h
 rename_i k i
 cases i with
 | ofNat m => simp at h; subst h; cases hr; exact ⟨k, rfl⟩
 | negSucc m => simp at h
inductive ROpt (g : Gh) : Option V → Option Value → Prop
 | none : ROpt g none none
 | some (v : V) (c : Value) (h : R g v c) : ROpt g (some v) (some c)
theorem Jhe [Memo] {g : Gh} {N : Nat} {fr : Fr} {a : Act} (h : FR g N fr a) {x : Option Operand} {v : Option V} (hv : JU fr x = some v) : ROpt g v (x.map a.eval) := by
 cases x with
 | none => simp [JU] at hv; subst hv; exact .none
 | some x =>
  simp only [JU] at hv
  split at hv
  ·rename_i u hu
   simp only [Option.some.injEq] at hv; subst hv
   exact .some _ _ (Qh h hu)
  ·simp at hv
theorem J4 {P : Program} {w : World} (k : IntKind) (n y : Nat) (code : BoundsCode) (h : n ≤ y) : (Instr.sliceBound (.int k (n : Int)) y code).run P w = .ok n w := by
 have : (0 : Int) ≤ (n : Int) ∧ (n : Int) ≤ (y : Int) := ⟨by omega, by omega⟩
 simp [Instr.sliceBound, asIntOf, this]
theorem JaV {P : Program} {w : World} {g : Gh} (isSlice : Bool) {len cap l h : Nat} {lo hi : Option V} {clo chi : Option Value} (hlo : ROpt g lo clo) (hhi : ROpt g hi chi)
  (e1 : JH lo 0 = some l) (e2 : JH hi len = some h) (h1 : l ≤ h) (h2 : h ≤ len) (h3 : len ≤ cap) :
  (Instr.sliceBounds isSlice len cap clo chi none).run P w = .ok (l, h, cap) w := by
 cases hlo with
 | none =>
  simp [JH] at e1; subst e1
  cases hhi with
  | none => simp [JH] at e2; subst e2; simp [Instr.sliceBounds]
  | some v c hv =>
   obtain ⟨k, rfl⟩ := Qs e2 hv
   simp [Instr.sliceBounds, J4 k h cap _ (Nat.le_trans h2 h3)]
 | some u d hu =>
  obtain ⟨k, rfl⟩ := Qs e1 hu
  cases hhi with
  | none => simp [JH] at e2; subst e2; simp [Instr.sliceBounds, J4 k l _ _ h1]
  | some v c hv =>
   obtain ⟨k', rfl⟩ := Qs e2 hv
   simp [Instr.sliceBounds, J4 k l _ _ h1, J4 k' h cap _ (Nat.le_trans h2 h3)]
theorem Jds (l : List UInt8) (i j : Nat) : (⟨⟨l⟩⟩ : ByteArray).extract i j = ⟨⟨(l.drop i).take (j - i)⟩⟩ := by
 apply ByteArray.ext
 simp
theorem Jah {a b : Bool} (h : (a && b) = true) : a = true ∧ b = true := by simpa using h
theorem Jja {g : Gh} {id off z : Nat} {cap' : Option Nat} {b o bs co c l h m : Nat} (hb : g.box id = some (b, o, bs)) (ho : c = 0 ∨ co = o + off) (hlh : l ≤ h) (hhm : h ≤ m) (hmc : m ≤ c)
  (hk : capOk cap' (o + (off + l * z)) (m - l) z bs) :
  R g (.ms id (off + l * z) (h - l) z cap') (.slice (if m = l then some ⟨b, co, none⟩ else some ⟨b, co + l * z, none⟩) (h - l) (m - l)) := by
 by_cases hml : m = l
 ·rw [if_pos hml]
  exact .ms _ _ _ _ _ b o bs co _ hb (by omega) (.inl (by omega)) hk
 ·rw [if_neg hml]
  refine .ms _ _ _ _ _ b o bs _ _ hb (by omega) ?_ hk
  rcases ho with ho | ho
  ·exact absurd (show m = l by omega) hml
  ·exact .inr (by omega)
theorem capOk.sub {cap : Option Nat} {o off c z bs : Nat} (hk : capOk cap (o + off) c z bs) {l : Nat} (hl : l ≤ c) : capOk (JcR cap l) (o + (off + l * z)) (c - l) z bs := by
 cases cap with
 | some k => show c - l = Nat.sub k l; have : c = k := hk; rw [this]; rfl
 | none =>
  show o + (off + l * z) + (c - l) * z = bs
  have hk : o + off + c * z = bs := hk
  have : l * z + (c - l) * z = c * z := by rw [← Nat.add_mul]; congr 1; omega
  omega
theorem Jh8 {cap : Option Nat} {q c z bs n h : Nat} (hk : capOk cap q c z bs) (hn : n ≤ c) (hh : JbM h n cap = true) : h ≤ c := by
 cases cap with
 | some k => have : c = k := hk; have := Nat.le_of_ble_eq_true hh; omega
 | none => have := Nat.le_of_ble_eq_true hh; omega
theorem Jbf {P : Program} {w : World} {g : Gh} (isSlice : Bool) {len cap l h : Nat} {lo hi : Option V} {clo chi : Option Value} (hlo : ROpt g lo clo) (hhi : ROpt g hi chi)
  (e1 : JH lo 0 = some l) (e2 : JH hi len = some h) (h1 : l ≤ h) (h2 : h ≤ cap) :
  (Instr.sliceBounds isSlice len cap clo chi none).run P w = .ok (l, h, cap) w := by
 cases hlo with
 | none =>
  simp [JH] at e1; subst e1
  cases hhi with
  | none => simp [JH] at e2; subst e2; simp [Instr.sliceBounds]
  | some v c hv =>
   obtain ⟨k, rfl⟩ := Qs e2 hv
   simp [Instr.sliceBounds, J4 k h cap _ h2]
 | some u d hu =>
  obtain ⟨k, rfl⟩ := Qs e1 hu
  cases hhi with
  | none => simp [JH] at e2; subst e2; simp [Instr.sliceBounds, J4 k l _ _ h1]
  | some v c hv =>
   obtain ⟨k', rfl⟩ := Qs e2 hv
   simp [Instr.sliceBounds, J4 k l _ _ h1, J4 k' h cap _ h2]
theorem Jjb {P : Program} {g : Gh} {t : TypeId} {x v : V} {lo hi : Option V} {cx : Value} {clo chi : Option Value} (h : QA P t x lo hi = some v)
  (hx : R g x cx) (hlo : ROpt g lo clo) (hhi : ROpt g hi chi) (w : World) : ∃ c, (Instr.sliceAt t cx clo chi none).run P w = .ok c w ∧ R g v c := by
 unfold QA at h
 split at h
 ·
  rename_i s hu
  cases hx
  split at h
  ·rename_i l hh e1 e2
   split at h
   ·rename_i hb
    obtain ⟨b1, b2⟩ := Jah hb
    have b1 := Nat.le_of_ble_eq_true b1
    have b2 := Nat.le_of_ble_eq_true b2
    simp only [Option.some.injEq] at h; subst h
    refine ⟨.string ⟨⟨(s.toList.drop l).take (hh - l)⟩⟩, ?_, by have := R.str (g := g) (s.cut l hh); rwa [S.toList_cut s b1 b2] at this⟩
    have hs : (⟨⟨s.toList⟩⟩ : ByteArray).size = s.n := s.len
    simp [Instr.sliceAt, run_underlying hu, Instr.slice, hs, JaV false hlo hhi e1 e2 b1 b2 (Nat.le_refl _), Jds]
   ·simp at h
  ·simp at h
 ·
  rename_i n cs ex e hu
  cases hx with
  | sl _ _ _ b o cap l0 hr hp hc ht =>
   split at h
   ·rename_i l hh z e1 e2 e3
    split at h
    ·rename_i hb
     obtain ⟨b12, b3⟩ := Jah hb
     obtain ⟨b1, b2⟩ := Jah b12
     have b1 := Nat.le_of_ble_eq_true b1
     have b2 := Nat.le_of_ble_eq_true b2
     have b3 := Nat.eq_of_beq_eq_true b3
     simp only [Option.some.injEq] at h; subst h
     refine ⟨.slice (if cap = l then some ⟨b, o, none⟩ else some ⟨b, o + l * z, none⟩) (hh - l) (cap - l), ?_, ?_⟩
     ·simp [Instr.sliceAt, run_underlying hu, Instr.slice, JaV true hlo hhi e1 e2 b1 b2 hc, JF e3, Addr.add_lit]
     ·have hex : (ex && Nat.beq hh n) = true → cap - l = hh - l := fun hx => by
       obtain ⟨x1, x2⟩ := Jah hx
       have := ht x1
       have := Nat.eq_of_beq_eq_true x2
       omega
      by_cases hcl : cap = l
      ·have e0 : hh - l = 0 := by omega
       rw [if_pos hcl]
       simp only [e0, Nat.zero_mul] at hex ⊢
       exact .sl _ _ _ b o _ [] (by simpa [Vm.sub] using Rs.nil) (fun i c hi => by simp at hi) (by omega) hex
      ·rw [if_neg hcl]
       exact .sl _ _ _ b (o + l * z) _ ((l0.drop (l * z)).take ((hh - l) * z)) (hr.sub _ _) ((hp.drop _).take _) (by omega) hex
    ·simp at h
   ·simp at h
  | sl0 _ a cap he =>
   split at h
   ·rename_i l hh z e1 e2 e3
    split at h
    ·rename_i hb
     obtain ⟨b12, b3⟩ := Jah hb
     obtain ⟨b1, b2⟩ := Jah b12
     have b1 := Nat.le_of_ble_eq_true b1
     have b2 := Nat.le_of_ble_eq_true b2
     simp only [Option.some.injEq] at h; subst h
     obtain rfl : l = 0 := by omega
     obtain rfl : hh = 0 := by omega
     refine ⟨.slice (some a) 0 cap, ?_, by simpa [Vm.sub] using R.sl0 (g := g) ex a cap he⟩
     simp [Instr.sliceAt, run_underlying hu, Instr.slice, JaV true hlo hhi e1 e2 b1 b2 (Nat.zero_le cap), JF e3, Addr.add]
    ·simp at h
   ·simp at h
 ·
  rename_i id off n z cap e hu
  cases hx with
  | ms _ _ _ _ _ b o bs co c hb0 hc ho hk =>
   split at h
   ·rename_i l hh z' e1 e2 e3
    split at h
    ·rename_i hb
     obtain ⟨b12, b3⟩ := Jah hb
     obtain ⟨b1, b2⟩ := Jah b12
     have b1 := Nat.le_of_ble_eq_true b1
     have b2 := Jh8 hk hc b2
     have b3 := Nat.eq_of_beq_eq_true b3
     subst b3
     simp only [Option.some.injEq] at h; subst h
     refine ⟨.slice (if c = l then some ⟨b, co, none⟩ else some ⟨b, co + l * z, none⟩) (hh - l) (c - l), ?_, Jja hb0 ho b1 b2 (Nat.le_refl _) (hk.sub (by omega))⟩
     simp [Instr.sliceAt, run_underlying hu, Instr.slice, Jbf true hlo hhi e1 e2 b1 b2, JF e3, Addr.add_lit]
    ·simp at h
   ·simp at h
 ·
  rename_i e hu
  cases hx
  split at h
  ·rename_i z e1 e2 e3
   simp only [Option.some.injEq] at h; subst h
   refine ⟨.slice none 0 0, ?_, .nils⟩
   simp [Instr.sliceAt, run_underlying hu, Instr.slice, JaV true hlo hhi e1 e2 (Nat.le_refl _) (Nat.le_refl _) (Nat.le_refl _), JF e3]
  ·simp at h
 ·
  rename_i id off n e hu
  cases hx with
  | ptr _ _ b o bs hb0 =>
   split at h
   ·rename_i l hh z e1 e2 e3
    split at h
    ·rename_i hb
     obtain ⟨b1, b2⟩ := Jah hb
     have b1 := Nat.le_of_ble_eq_true b1
     have b2 := Nat.le_of_ble_eq_true b2
     simp only [Option.some.injEq] at h; subst h
     refine ⟨.slice (if n = l then some ⟨b, o + off, none⟩ else some ⟨b, o + off + l * z, none⟩) (hh - l) (n - l), ?_, Jja hb0 (.inr rfl) b1 b2 (Nat.le_refl _) (by show n - l = n - l; rfl)⟩
     simp [Instr.sliceAt, run_underlying hu, Instr.sureAddr, Jbf false hlo hhi e1 e2 b1 b2, JF e3, Addr.add_lit]
     split <;> rfl
    ·simp at h
   ·simp at h
 ·
  rename_i cs n e hu
  cases hx with
  | cp _ b o l0 hr hp =>
   split at h
   ·rename_i l hh z e1 e2 e3
    split at h
    ·rename_i hb
     obtain ⟨b12, b3⟩ := Jah hb
     obtain ⟨b1, b2⟩ := Jah b12
     have b1 := Nat.le_of_ble_eq_true b1
     have b2 := Nat.le_of_ble_eq_true b2
     simp only [Option.some.injEq] at h; subst h
     refine ⟨.slice (if n = l then some ⟨b, o, none⟩ else some ⟨b, o + l * z, none⟩) (hh - l) (n - l), ?_, ?_⟩
     ·simp [Instr.sliceAt, run_underlying hu, Instr.sureAddr, Jbf false hlo hhi e1 e2 b1 b2, JF e3, Addr.add_lit]
      split <;> rfl
     ·have hex : (Nat.beq hh n) = true → n - l = hh - l := fun hx => by
       have := Nat.eq_of_beq_eq_true hx
       omega
      by_cases hcl : n = l
      ·have e0 : hh - l = 0 := by omega
       rw [if_pos hcl]
       simp only [e0, Nat.zero_mul] at hex ⊢
       exact .sl _ _ _ b o _ [] (by simpa [Vm.sub] using Rs.nil) (fun i c hi => by simp at hi) (by omega) hex
      ·rw [if_neg hcl]
       exact .sl _ _ _ b (o + l * z) _ ((l0.drop (l * z)).take ((hh - l) * z)) (hr.sub _ _) ((hp.drop _).take _) (by omega) hex
    ·simp at h
   ·simp at h
 ·simp at h
theorem JaJ {P : Program} {w : World} {g : Gh} {len cap l h m : Nat} {lo : Option V} {clo : Option Value} (hlo : ROpt g lo clo) (kh km : IntKind)
  (e1 : JH lo 0 = some l) (h1 : l ≤ h) (h2 : h ≤ m) (h3 : m ≤ cap) :
  (Instr.sliceBounds true len cap clo (some (.int kh (h : Int))) (some (.int km (m : Int)))).run P w = .ok (l, h, m) w := by
 cases hlo with
 | none =>
  simp [JH] at e1; subst e1
  simp [Instr.sliceBounds, J4 km m cap _ h3, J4 kh h m _ h2]
 | some u d hu =>
  obtain ⟨k, rfl⟩ := Qs e1 hu
  simp [Instr.sliceBounds, J4 km m cap _ h3, J4 kh h m _ h2, J4 k l h _ h1]
theorem Jh9 {P : Program} {g : Gh} {t : TypeId} {x v : V} {lo : Option V} {hi mx : V} {cx : Value} {clo : Option Value} {chi cmx : Value} (h : Jg7 P t x lo hi mx = some v)
  (hx : R g x cx) (hlo : ROpt g lo clo) (hhi : R g hi chi) (hmx : R g mx cmx) (w : World) : ∃ c, (Instr.sliceAt t cx clo (some chi) (some cmx)).run P w = .ok c w ∧ R g v c := by
 unfold Jg7 at h
 split at h
 ·rename_i id off n z cap e m hu hm
  obtain ⟨km, rfl⟩ := Qs hm hmx
  cases hx with
  | ms _ _ _ _ _ b o bs co c hb0 hc ho hk =>
   split at h
   ·rename_i l hh z' e1 e2 e3
    obtain ⟨kh, rfl⟩ := Qs e2 hhi
    split at h
    ·rename_i hb
     obtain ⟨b123, b3⟩ := Jah hb
     obtain ⟨b12, b2⟩ := Jah b123
     obtain ⟨b0, b1⟩ := Jah b12
     have b0 := Nat.le_of_ble_eq_true b0
     have b1 := Nat.le_of_ble_eq_true b1
     have b2 := Jh8 hk hc b2
     have b3 := Nat.eq_of_beq_eq_true b3
     subst b3
     simp only [Option.some.injEq] at h; subst h
     refine ⟨.slice (if m = l then some ⟨b, co, none⟩ else some ⟨b, co + l * z, none⟩) (hh - l) (m - l), ?_, Jja hb0 ho b1 b0 b2 (by show m - l = m - l; rfl)⟩
     simp [Instr.sliceAt, run_underlying hu, Instr.slice, JaJ hlo kh km e1 b1 b0 b2, JF e3, Addr.add_lit]
    ·simp at h
   ·simp at h
 ·rename_i e hu hm
  obtain ⟨km, rfl⟩ := Qs hm hmx
  cases hx
  split at h
  ·rename_i z e1 e2 e3
   obtain ⟨kh, rfl⟩ := Qs e2 hhi
   simp only [Option.some.injEq] at h; subst h
   refine ⟨.slice none 0 0, ?_, .nils⟩
   have q := JaJ (P := P) (w := w) (len := 0) hlo kh km e1 (Nat.le_refl 0) (Nat.le_refl 0) (Nat.le_refl 0)
   simp only [Int.cast_ofNat_Int] at q
   simp [Instr.sliceAt, run_underlying hu, Instr.slice, q, JF e3]
  ·simp at h
 ·rename_i n cs ex0 e m hu hm
  obtain ⟨km, rfl⟩ := Qs hm hmx
  cases hx with
  | sl _ _ _ b o cap l0 hr hp hc ht =>
   split at h
   ·rename_i l hh z e1 e2 e3
    obtain ⟨kh, rfl⟩ := Qs e2 hhi
    split at h
    ·rename_i hb
     obtain ⟨b123, b3⟩ := Jah hb
     obtain ⟨b12, b2⟩ := Jah b123
     obtain ⟨b0, b1⟩ := Jah b12
     have b0 := Nat.le_of_ble_eq_true b0
     have b1 := Nat.le_of_ble_eq_true b1
     have b2 := Nat.le_of_ble_eq_true b2
     simp only [Option.some.injEq] at h; subst h
     refine ⟨.slice (if m = l then some ⟨b, o, none⟩ else some ⟨b, o + l * z, none⟩) (hh - l) (m - l), ?_, ?_⟩
     ·simp [Instr.sliceAt, run_underlying hu, Instr.slice, JaJ hlo kh km e1 b1 b0 (Nat.le_trans b2 hc), JF e3, Addr.add_lit]
     ·have hex : Nat.beq hh m = true → m - l = hh - l := fun hx => by
       have := Nat.eq_of_beq_eq_true hx
       omega
      by_cases hcl : m = l
      ·have e0 : hh - l = 0 := by omega
       rw [if_pos hcl]
       simp only [e0, Nat.zero_mul] at hex ⊢
       exact .sl _ _ _ b o _ [] (by simpa [Vm.sub] using Rs.nil) (fun i c hi => by simp at hi) (by omega) hex
      ·rw [if_neg hcl]
       exact .sl _ _ _ b (o + l * z) _ ((l0.drop (l * z)).take ((hh - l) * z)) (hr.sub _ _) ((hp.drop _).take _) (by omega) hex
    ·simp at h
   ·simp at h
  | sl0 _ a cap he =>
   split at h
   ·rename_i l hh z e1 e2 e3
    obtain ⟨kh, rfl⟩ := Qs e2 hhi
    split at h
    ·rename_i hb
     obtain ⟨b123, b3⟩ := Jah hb
     obtain ⟨b12, b2⟩ := Jah b123
     obtain ⟨b0, b1⟩ := Jah b12
     have b0 := Nat.le_of_ble_eq_true b0
     have b1 := Nat.le_of_ble_eq_true b1
     have b2 := Nat.le_of_ble_eq_true b2
     simp only [Option.some.injEq] at h; subst h
     obtain rfl : m = 0 := by omega
     obtain rfl : hh = 0 := by omega
     obtain rfl : l = 0 := by omega
     refine ⟨.slice (some a) 0 0, ?_, by simpa [Vm.sub] using R.sl0 (g := g) true a 0 (fun _ => rfl)⟩
     have q := JaJ (P := P) (w := w) (len := 0) (cap := cap) hlo kh km e1 (Nat.le_refl 0) (Nat.le_refl 0) (Nat.zero_le cap)
     simp only [Int.cast_ofNat_Int] at q
     simp [Instr.sliceAt, run_underlying hu, Instr.slice, q, JF e3, Addr.add]
    ·simp at h
   ·simp at h
 ·simp at h
end Go.Vm
