/- Parameters' and variables' names, by the program and by the document. -/
import Derived.Test.YtlmmgpmioaecnaaGreatDoorSz00
namespace Go.Vm
open Go Go.Proofs Go.Sy
set_option maxRecDepth 100000
attribute [local simp] Oks J8 Jj Jo vop Js Jy ev evs toV andThen inBlock Jn Fr.dsTo Fr.glTo Fr.toNone Jk Jl Jm J6 Jc Jz Jw V.undef JU J9 Qk
theorem JeN {s : S} (h : s.n = 0) : QR s.toList = false := by
 have : s.toList = [] := List.eq_nil_of_length_eq_zero (by rw [S.len, h])
 rw [this]; rfl
theorem Jhh {s : S} (h : s.n = 0) : Jau s.toList = false := by
 have : s.toList = [] := List.eq_nil_of_length_eq_zero (by rw [S.len, h])
 rw [this]; rfl
theorem JdI {s : S} (h : s.n = 1) : Jau s.toList = ([49, 50, 51, 52, 53, 54, 55, 56, 57, 35, 63].elem (UInt8.ofNat (s.at 0)) || QR s.toList) := by
 have h1 := s.drop_at (i := 0) (by omega)
 rw [List.drop_zero] at h1
 have h2 : s.toList.drop 1 = [] := by rw [List.drop_eq_nil_iff, S.len]; omega
 rw [Nat.zero_add, h2] at h1
 rw [h1]
 rfl
theorem Jc1 {s : S} (h : s.n ≠ 1) : Jau s.toList = QR s.toList := by
 have h2 : s.toList.length ≠ 1 := by rw [S.len]; exact h
 generalize s.toList = l at h2
 match l with
 | [] => rfl
 | [b] => exact absurd rfl h2
 | b :: c :: r => rfl
theorem JnH : ∀ c : Nat, c < 256 → [49, 50, 51, 52, 53, 54, 55, 56, 57, 35, 63].elem (UInt8.ofNat c) = ((decide (49 ≤ c) && decide (c ≤ 57)) || decide (c = 35) || decide (c = 63)) := by decide +kernel
theorem JfX {s : S} (h : Jau s.toList = true) : 0 < s.n ∧ (QR s.toList = true → QP (UInt8.ofNat (s.at 0)) = true) ∧ (QR s.toList = false → s.n = 1 ∧ [49, 50, 51, 52, 53, 54, 55, 56, 57, 35, 63].elem (UInt8.ofNat (s.at 0)) = true) := by
 have hpos : 0 < s.n := by
  rcases Nat.eq_zero_or_pos s.n with h0 | h0
  ·rw [Jhh h0] at h; cases h
  ·exact h0
 refine ⟨hpos, fun hn => ?_, fun hn => ?_⟩
 ·rw [Jfq hpos] at hn
  simp only [Bool.and_eq_true] at hn
  exact hn.1.1
 ·by_cases h1 : s.n = 1
  ·rw [JdI h1, hn, Bool.or_false] at h
   exact ⟨h1, h⟩
  ·rw [Jc1 h1, hn] at h; cases h
theorem Jik {s : S} (b : UInt8) (h : 0 < s.n) : s.same (S.ofList [b]) = (decide (s.n = 1) && decide (UInt8.ofNat (s.at 0) = b)) := by
 rw [S.same_eq, S.toList_ofList, Bool.eq_iff_iff, beq_iff_eq, Bool.and_eq_true, decide_eq_true_eq, decide_eq_true_eq]
 have h1 := s.drop_at h
 rw [List.drop_zero] at h1
 have h2 : s.toList.length = s.n := S.len s
 generalize s.toList = l at h1 h2
 cases l with
 | nil => cases h1
 | cons c r =>
  simp only [List.cons.injEq] at h1 ⊢
  obtain ⟨rfl, _⟩ := h1
  simp at h2
  constructor
  ·rintro ⟨rfl, rfl⟩
   simp at h2
   exact ⟨h2.symm, rfl⟩
  ·rintro ⟨h3, rfl⟩
   exact ⟨rfl, List.eq_nil_of_length_eq_zero (by omega)⟩
theorem Jjj : ∀ c : Nat, c < 256 → QP (UInt8.ofNat c) = true → ¬ UInt8.ofNat c = 35 ∧ ¬ UInt8.ofNat c = 63 ∧ (c < 48 ∨ 57 < c) := by decide +kernel
theorem Jlf : ∀ c : Nat, c < 256 → [49, 50, 51, 52, 53, 54, 55, 56, 57, 35, 63].elem (UInt8.ofNat c) = true → UInt8.ofNat c = 35 ∨ UInt8.ofNat c = 63 ∨ ¬ (c < 48 ∨ 57 < c) := by decide +kernel
theorem Jmw : ∀ c : Nat, c < 256 → QP (UInt8.ofNat c) = (decide (c = 95) || (decide (97 ≤ c) && decide (c ≤ 122)) || (decide (65 ≤ c) && decide (c ≤ 90))) := by decide +kernel
theorem Jhi : ∀ c : Nat, c < 256 → [49, 50, 51, 52, 53, 54, 55, 56, 57, 35, 63].elem (UInt8.ofNat c) = true → QP (UInt8.ofNat c) = false := by decide +kernel
variable [Memo] [NY]
theorem Jmx (gl : Gl) (st : St) (s : S) (hs : s.n < 4000000000000000000) :
  W Tryz.prog (.call gl 86 [.str s]) st = .call (.val (.bool (Jau s.toList)) st) := by
 have hk37 : Jg Tryz.prog 102 = true := by kernel_rfl
 have hk40 : Jg Tryz.prog 105 = true := by kernel_rfl
 have hlen := QC Tryz.underlying9 (s := s)
 obtain ⟨v, st', hl, ⟨n, rfl, hn, hd⟩, rfl⟩ := JjW gl st s hs
 have hl := Jh hl
 have e1 : ∀ kk, Je Tryz.prog kk .eql 3 (.int .i64 (s.n : Int)) (.int .i64 1) = some (.bool (decide (s.n = 1))) := fun kk => JE rfl
 have e2 : ∀ kk, Je Tryz.prog kk .eql 3 (.int .i64 (n : Int)) (.int .i64 (s.n : Int)) = some (.bool (decide (n = s.n))) := fun kk => JE rfl
 have hse := QH s
 have hA : ∀ A, (0 < s.n → decide (n = s.n) = QR s.toList) → A = (!decide (s.n = 0) && decide (n = s.n)) → A = QR s.toList := fun A hd hA => by
  by_cases h0 : s.n = 0
  ·rw [hA, decide_eq_true h0, JeN h0]; rfl
  ·rw [hA, decide_eq_false h0, hd (by omega)]; rfl
 have hB := hA _ hd rfl
 refine Qg (NY.no _ rfl rfl rfl _ _) Tryz.func86 rfl (by kernel_rfl) ?_
 repeat refine Does.seq ?_
 refine Does.region ?_
 simp
 repeat refine Does.seq ?_
 refine Does.region ?_
 by_cases h1 : s.n = 1
 ·rw [decide_eq_true h1] at e1
  have hc := Jh (JdO gl st' (S.ofList [49, 50, 51, 52, 53, 54, 55, 56, 57, 35, 63]) s h1)
  rw [S.toList_ofList] at hc
  have hp := JdI h1
  have hcc : (s.at 0).toUInt8 = UInt8.ofNat (s.at 0) := rfl
  rw [hcc] at hc
  generalize [49, 50, 51, 52, 53, 54, 55, 56, 57, 35, 63].elem (UInt8.ofNat (s.at 0)) = b at hc hp
  cases b with
  | true =>
   simp [hlen, e1, Ja hk37, hc]
   repeat refine Does.seq ?_
   refine Does.condT (by simp) ?_
   repeat refine Does.seq ?_
   refine Does.region ?_
   simp
   refine Does.ret ?_
   simp [hp]
  | false =>
   simp [hlen, e1, Ja hk37, hc]
   repeat refine Does.seq ?_
   refine Does.condF (by simp) ?_
   refine Does.skip ?_
   simp
   repeat refine Does.seq ?_
   refine Does.region ?_
   rw [Bool.false_or, ← hB] at hp
   rw [hp]
   generalize decide (n = s.n) = d at e2
   have h0 : ¬ s.n = 0 := by omega
   rw [decide_eq_false h0] at hse
   rw [decide_eq_false h0]
   simp [Jt, hse, Ja hk40, hl, hlen, e2]
   refine Does.ret ?_
   simp []
 ·rw [decide_eq_false h1] at e1
  simp [hlen, e1]
  repeat refine Does.seq ?_
  refine Does.condF (by simp) ?_
  refine Does.skip ?_
  simp
  repeat refine Does.seq ?_
  refine Does.region ?_
  have hp := Jc1 h1
  rw [← hB] at hp
  rw [hp]
  generalize decide (n = s.n) = d at e2
  by_cases h0 : s.n = 0
  ·rw [decide_eq_true h0] at hse
   rw [decide_eq_true h0]
   simp [Jt, hse]
   refine Does.ret ?_
   simp []
  ·rw [decide_eq_false h0] at hse
   rw [decide_eq_false h0]
   simp [Jt, hse, Ja hk40, hl, hlen, e2]
   refine Does.ret ?_
   simp []
theorem Jmy (gl : Gl) (st : St) (s : S) (hs : s.n < 4000000000000000000) :
  W Tryz.prog (.call gl 96 [.str s]) st = .call (.val (.bool (Jau s.toList)) st) := by
 have hk44 : Jg Tryz.prog 114 = true := by kernel_rfl
 have hlen := QC Tryz.underlying9 (s := s)
 have hl := Jh (JhO gl st s hs)
 have e1 : ∀ kk, Je Tryz.prog kk .eql 3 (.int .i64 (s.n : Int)) (.int .i64 1) = some (.bool (decide (s.n = 1))) := fun kk => JE rfl
 refine Qg (NY.no _ rfl rfl rfl _ _) Tryz.func96 rfl (by kernel_rfl) ?_
 repeat refine Does.seq ?_
 refine Does.region ?_
 simp
 repeat refine Does.seq ?_
 refine Does.region ?_
 by_cases h1 : s.n = 1
 ·rw [decide_eq_true h1] at e1
  have hix := JY (P := Tryz.prog) (k := .i64) Tryz.underlying9 (s := s) (i := 0) (by omega)
  simp only [Int.cast_ofNat_Int] at hix
  have hp := JdI h1
  rw [JnH _ (s.at_lt 0)] at hp
  have f1 : ∀ kk, Je Tryz.prog kk .geq 5 (.int .u8 (s.at 0 : Int)) (.int .u8 49) = some (.bool (decide (49 ≤ s.at 0))) := fun kk => Jb4 rfl
  have f2 : ∀ kk, Je Tryz.prog kk .leq 5 (.int .u8 (s.at 0 : Int)) (.int .u8 57) = some (.bool (decide (s.at 0 ≤ 57))) := fun kk => JbL rfl
  have f3 : ∀ kk, Je Tryz.prog kk .eql 5 (.int .u8 (s.at 0 : Int)) (.int .u8 35) = some (.bool (decide (s.at 0 = 35))) := fun kk => JE rfl
  have f4 : ∀ kk, Je Tryz.prog kk .eql 5 (.int .u8 (s.at 0 : Int)) (.int .u8 63) = some (.bool (decide (s.at 0 = 63))) := fun kk => JE rfl
  rw [hp]
  generalize QR s.toList = N at hl
  generalize decide (49 ≤ s.at 0) = b1 at f1
  generalize decide (s.at 0 ≤ 57) = b2 at f2
  generalize decide (s.at 0 = 35) = b3 at f3
  generalize decide (s.at 0 = 63) = b4 at f4
  cases b1 <;> cases b2 <;> cases b3 <;> cases b4 <;> simp [hlen, e1, hix, f1, f2, f3, f4] <;> first
   | (refine Does.seq ?_; refine Does.condT (by simp) ?_; refine Does.seq ?_; refine Does.region ?_; simp; refine Does.ret ?_; simp [Tryz.f96]; done)
   | (refine Does.condT (by simp) ?_; refine Does.seq ?_; refine Does.region ?_; simp; refine Does.ret ?_; simp []; done)
   | (refine Does.condF (by simp) ?_; refine Does.skip ?_; simp; refine Does.seq ?_; refine Does.region ?_; simp [Ja hk44, hl]; refine Does.ret ?_; simp []; done)
 ·rw [decide_eq_false h1] at e1
  rw [Jc1 h1]
  generalize QR s.toList = N at hl
  simp [hlen, e1]
  repeat refine Does.seq ?_
  refine Does.condF (by simp) ?_
  refine Does.skip ?_
  simp
  repeat refine Does.seq ?_
  refine Does.region ?_
  simp [Ja hk44, hl]
  refine Does.ret ?_
  simp []
theorem Jn5 (gl : Gl) (st : St) (s : S) (hs : s.n < 4000000000000000000) :
  W Tryz.prog (.call gl 52 [.str s]) st = .call (.val (.bool (QR s.toList)) st) := by
 have hk29 : Jg Tryz.prog 86 = true := by kernel_rfl
 have hl := Jh (Jmx gl st s hs)
 refine Qg (NY.no _ rfl rfl rfl _ _) Tryz.func52 rfl (by kernel_rfl) ?_
 repeat refine Does.seq ?_
 refine Does.region ?_
 simp
 repeat refine Does.seq ?_
 refine Does.region ?_
 cases hp : Jau s.toList with
 | false =>
  rw [hp] at hl
  have hn : QR s.toList = false := by
   unfold Jau at hp
   simp only [Bool.or_eq_false_iff] at hp
   exact hp.2
  rw [hn]
  simp [Ja hk29, hl]
  refine Does.ret ?_
  simp []
 | true =>
  rw [hp] at hl
  obtain ⟨hpos, n1, n2⟩ := JfX hp
  have hix := JY (P := Tryz.prog) (k := .i64) Tryz.underlying9 hpos
  simp only [Int.cast_ofNat_Int] at hix
  have s1 := Jik 35 hpos
  have s2 := Jik 63 hpos
  have f1 : ∀ kk, Je Tryz.prog kk .lss 5 (.int .u8 (s.at 0 : Int)) (.int .u8 48) = some (.bool (decide (s.at 0 < 48))) := fun kk => QN rfl
  have f2 : ∀ kk, Je Tryz.prog kk .gtr 5 (.int .u8 (s.at 0 : Int)) (.int .u8 57) = some (.bool (decide (57 < s.at 0))) := fun kk => Jbd rfl
  cases hn : QR s.toList with
  | true =>
   obtain ⟨m1, m2, m3⟩ := Jjj _ (s.at_lt 0) (n1 hn)
   rw [decide_eq_false m1, Bool.and_false] at s1
   rw [decide_eq_false m2, Bool.and_false] at s2
   by_cases hlo : s.at 0 < 48
   ·rw [decide_eq_true hlo] at f1
    simp [Ja hk29, hl, Jt, s1, s2, hix, f1]
    refine Does.ret ?_
    simp []
   ·rw [decide_eq_false hlo] at f1
    rw [decide_eq_true (m3.resolve_left hlo)] at f2
    simp [Ja hk29, hl, Jt, s1, s2, hix, f1, f2]
    refine Does.ret ?_
    simp []
  | false =>
   obtain ⟨h1, h2⟩ := n2 hn
   rw [decide_eq_true h1, Bool.true_and] at s1 s2
   by_cases q1 : UInt8.ofNat (s.at 0) = 35
   ·rw [decide_eq_true q1] at s1
    simp [Ja hk29, hl, Jt, s1]
    refine Does.ret ?_
    simp []
   ·rw [decide_eq_false q1] at s1
    by_cases q2 : UInt8.ofNat (s.at 0) = 63
    ·rw [decide_eq_true q2] at s2
     simp [Ja hk29, hl, Jt, s1, s2]
     refine Does.ret ?_
     simp []
    ·rw [decide_eq_false q2] at s2
     have q3 := ((Jlf _ (s.at_lt 0) h2).resolve_left q1).resolve_left q2
     rw [decide_eq_false (fun h => q3 (.inl h))] at f1
     rw [decide_eq_false (fun h => q3 (.inr h))] at f2
     simp [Ja hk29, hl, Jt, s1, s2, hix, f1, f2]
     refine Does.ret ?_
     simp []
theorem Jmz (gl : Gl) (st : St) (s : S) (hs : s.n < 4000000000000000000) :
  W Tryz.prog (.call gl 67 [.str s]) st = .call (.val (.bool (QR s.toList)) st) := by
 have hk36 : Jg Tryz.prog 96 = true := by kernel_rfl
 have hl := Jh (Jmy gl st s hs)
 refine Qg (NY.no _ rfl rfl rfl _ _) Tryz.func67 rfl (by kernel_rfl) ?_
 repeat refine Does.seq ?_
 refine Does.region ?_
 simp
 repeat refine Does.seq ?_
 refine Does.region ?_
 cases hp : Jau s.toList with
 | false =>
  rw [hp] at hl
  have hn : QR s.toList = false := by
   unfold Jau at hp
   simp only [Bool.or_eq_false_iff] at hp
   exact hp.2
  rw [hn]
  simp [Ja hk36, hl]
  refine Does.ret ?_
  simp []
 | true =>
  rw [hp] at hl
  obtain ⟨hpos, n1, n2⟩ := JfX hp
  have hnl : QR s.toList = QP (UInt8.ofNat (s.at 0)) := by
   cases hn : QR s.toList with
   | true => exact (n1 hn).symm
   | false => exact (Jhi _ (s.at_lt 0) (n2 hn).2).symm
  rw [hnl, Jmw _ (s.at_lt 0)]
  have hix := JY (P := Tryz.prog) (k := .i64) Tryz.underlying9 hpos
  simp only [Int.cast_ofNat_Int] at hix
  have f1 : ∀ kk, Je Tryz.prog kk .eql 5 (.int .u8 (s.at 0 : Int)) (.int .u8 95) = some (.bool (decide (s.at 0 = 95))) := fun kk => JE rfl
  have f2 : ∀ kk, Je Tryz.prog kk .geq 5 (.int .u8 (s.at 0 : Int)) (.int .u8 97) = some (.bool (decide (97 ≤ s.at 0))) := fun kk => Jb4 rfl
  have f3 : ∀ kk, Je Tryz.prog kk .leq 5 (.int .u8 (s.at 0 : Int)) (.int .u8 122) = some (.bool (decide (s.at 0 ≤ 122))) := fun kk => JbL rfl
  have f4 : ∀ kk, Je Tryz.prog kk .geq 5 (.int .u8 (s.at 0 : Int)) (.int .u8 65) = some (.bool (decide (65 ≤ s.at 0))) := fun kk => Jb4 rfl
  have f5 : ∀ kk, Je Tryz.prog kk .leq 5 (.int .u8 (s.at 0 : Int)) (.int .u8 90) = some (.bool (decide (s.at 0 ≤ 90))) := fun kk => JbL rfl
  generalize decide (s.at 0 = 95) = b1 at f1
  generalize decide (97 ≤ s.at 0) = b2 at f2
  generalize decide (s.at 0 ≤ 122) = b3 at f3
  generalize decide (65 ≤ s.at 0) = b4 at f4
  generalize decide (s.at 0 ≤ 90) = b5 at f5
  cases b1 <;> cases b2 <;> cases b3 <;> cases b4 <;> cases b5 <;> simp [Ja hk36, hl, hix, f1, f2, f3, f4, f5] <;> refine Does.ret ?_ <;> simp []
end Go.Vm
namespace Go.Vm
open Go Go.Proofs Go.Sy
set_option maxRecDepth 100000
attribute [local simp] Oks J8 Jj Jo vop Js Jy ev evs toV andThen inBlock Jn Fr.dsTo Fr.glTo Fr.toNone Jk Jl Jm J6 Jc Jz Jw V.undef JU J9 Qk
theorem JmA (s : S) {i : Nat} (h : i < s.n) : ((⟨⟨s.toList⟩⟩ : ByteArray).get! i).toNat = s.at i := by
 have h1 := s.toList_at h
 have h2 : i < s.toList.length := by rw [S.len]; exact h
 rw [List.getElem?_eq_getElem h2] at h1
 have h3 := Option.some.inj h1
 have h4 : (⟨⟨s.toList⟩⟩ : ByteArray).get! i = s.toList[i] := by
  show (⟨s.toList⟩ : Array UInt8)[i]! = _
  simp [List.getElem?_eq_getElem h2]
 rw [h4, h3]
 have := s.at_lt i
 simp; omega
theorem Jhj (s : S) {i : Nat} (h : i < s.n) : (s.at i < 128 → Utf8.decode ⟨⟨s.toList⟩⟩ i = (s.at i, 1)) ∧ (128 ≤ s.at i → 128 ≤ (Utf8.decode ⟨⟨s.toList⟩⟩ i).1 ∧
  ((Utf8.decode ⟨⟨s.toList⟩⟩ i).1 = 65533 ∨ Utf8.valid ((Utf8.decode ⟨⟨s.toList⟩⟩ i).1 : Int) = true) ∧ 1 ≤ (Utf8.decode ⟨⟨s.toList⟩⟩ i).2 ∧ i + (Utf8.decode ⟨⟨s.toList⟩⟩ i).2 ≤ s.n ∧
  ∀ j, i ≤ j → j < i + (Utf8.decode ⟨⟨s.toList⟩⟩ i).2 → 128 ≤ s.at j) := by
 have hsz : (⟨⟨s.toList⟩⟩ : ByteArray).size = s.n := s.len
 have g0 := JmA s h
 have gk : ∀ k, i + k < s.n → ((⟨⟨s.toList⟩⟩ : ByteArray).get! (i + k)).toNat = s.at (i + k) := fun k hk => JmA s hk
 unfold Utf8.decode
 simp only [Nat.add_zero, g0, hsz]
 by_cases h0 : s.at i < 128
 ·rw [if_pos h0]
  exact ⟨fun _ => rfl, fun h => by omega⟩
 ·rw [if_neg h0]
  refine ⟨fun h => by omega, fun _ => ?_⟩
  have one : 128 ≤ (Utf8.runeError, 1).1 ∧ ((Utf8.runeError, 1).1 = 65533 ∨ Utf8.valid (((Utf8.runeError, 1).1 : Nat) : Int) = true) ∧ 1 ≤ (Utf8.runeError, 1).2 ∧ i + (Utf8.runeError, 1).2 ≤ s.n ∧ ∀ j, i ≤ j → j < i + (Utf8.runeError, 1).2 → 128 ≤ s.at j := by
   refine ⟨by decide, .inl rfl, Nat.le_refl _, h, fun j h1 h2 => ?_⟩
   obtain rfl : j = i := by simp at h2; omega
   omega
  have cont : ∀ k, (decide (i + k < s.n) && ((⟨⟨s.toList⟩⟩ : ByteArray).get! (i + k)).toNat / 64 == 2) = true → i + k < s.n ∧ 128 ≤ s.at (i + k) := fun k hk => by
   simp only [Bool.and_eq_true, decide_eq_true_eq, beq_iff_eq] at hk
   rw [gk k hk.1] at hk
   exact ⟨hk.1, by omega⟩
  have hv : ∀ c : Nat, 128 ≤ c → c < 2048 → Utf8.valid (c : Int) = true := fun c h1 h2 => by
   simp only [Utf8.valid, Bool.or_eq_true, Bool.and_eq_true, decide_eq_true_eq]
   left; omega
  split
  ·rename_i hc
   simp only [Bool.and_eq_true] at hc
   obtain ⟨c1, c2⟩ := cont 1 (by simpa using hc.2)
   split
   ·rename_i hge
    refine ⟨hge, .inr (hv _ hge (by omega)), by show 1 ≤ 2; decide, by show i + 2 ≤ s.n; omega, fun j h1 h2 => ?_⟩
    have : j = i ∨ j = i + 1 := by simp at h2; omega
    rcases this with rfl | rfl <;> omega
   ·exact one
  ·split
   ·rename_i hc
    simp only [Bool.and_eq_true] at hc
    obtain ⟨c1, c2⟩ := cont 1 (by simpa using hc.1.2)
    obtain ⟨c3, c4⟩ := cont 2 (by simpa using hc.2)
    split
    ·rename_i hge
     simp only [Bool.and_eq_true, decide_eq_true_eq] at hge
     refine ⟨by have := hge.1; show 128 ≤ _; omega, .inr hge.2, by show 1 ≤ 3; decide, by show i + 3 ≤ s.n; omega, fun j h1 h2 => ?_⟩
     have : j = i ∨ j = i + 1 ∨ j = i + 2 := by simp at h2; omega
     rcases this with rfl | rfl | rfl <;> omega
    ·exact one
   ·split
    ·rename_i hc
     simp only [Bool.and_eq_true] at hc
     obtain ⟨c1, c2⟩ := cont 1 (by simpa using hc.1.1.2)
     obtain ⟨c3, c4⟩ := cont 2 (by simpa using hc.1.2)
     obtain ⟨c5, c6⟩ := cont 3 (by simpa using hc.2)
     split
     ·rename_i hge
      simp only [Bool.and_eq_true, decide_eq_true_eq] at hge
      refine ⟨by have := hge.1; show 128 ≤ _; omega, .inr hge.2, by show 1 ≤ 4; decide, by show i + 4 ≤ s.n; omega, fun j h1 h2 => ?_⟩
      have : j = i ∨ j = i + 1 ∨ j = i + 2 ∨ j = i + 3 := by simp at h2; omega
      rcases this with rfl | rfl | rfl | rfl <;> omega
     ·exact one
    ·exact one
theorem Jjk {c : Nat} (hv : Utf8.valid (c : Int) = true) (h : ¬ c < 0x80) (h2 : c < 0x800) : (Utf8.encode (c : Int)).data.toList = [UInt8.ofNat (0xC0 + c / 64), UInt8.ofNat (0x80 + c % 64)] := by
 unfold Utf8.encode
 simp only [hv, if_true, Int.toNat_natCast, h, h2, if_false]
theorem Jhk {c : Nat} (hv : Utf8.valid (c : Int) = true) (h : ¬ c < 0x80) (h2 : ¬ c < 0x800) (h3 : c < 0x10000) : (Utf8.encode (c : Int)).data.toList = [UInt8.ofNat (0xE0 + c / 4096), UInt8.ofNat (0x80 + c / 64 % 64), UInt8.ofNat (0x80 + c % 64)] := by
 unfold Utf8.encode
 simp only [hv, if_true, Int.toNat_natCast, h, h2, h3, if_false]
theorem Jil {c : Nat} (hv : Utf8.valid (c : Int) = true) (h : ¬ c < 0x80) (h2 : ¬ c < 0x800) (h3 : ¬ c < 0x10000) : (Utf8.encode (c : Int)).data.toList = [UInt8.ofNat (0xF0 + c / 262144), UInt8.ofNat (0x80 + c / 4096 % 64), UInt8.ofNat (0x80 + c / 64 % 64), UInt8.ofNat (0x80 + c % 64)] := by
 unfold Utf8.encode
 simp only [hv, if_true, Int.toNat_natCast, h, h2, h3, if_false]
theorem Jhl {n : Nat} (h1 : 128 ≤ n) (h2 : n < 256) : 128 ≤ (UInt8.ofNat n).toNat := by simp; omega
theorem Jhm {c : Nat} (h : 128 ≤ c) (hv : Utf8.valid (c : Int) = true) : 2 ≤ (Utf8.encode (c : Int)).data.toList.length ∧ (Utf8.encode (c : Int)).data.toList.length ≤ 4 ∧ ∀ b ∈ (Utf8.encode (c : Int)).data.toList, 128 ≤ b.toNat := by
 have hmax : c < 1114112 := by
  simp only [Utf8.valid, Bool.or_eq_true, Bool.and_eq_true, decide_eq_true_eq] at hv
  omega
 have hn : ¬ c < 0x80 := by omega
 by_cases h2 : c < 0x800
 ·rw [Jjk hv hn h2]
  refine ⟨by simp, by simp, fun b hb => ?_⟩
  simp only [List.mem_cons, List.not_mem_nil, or_false] at hb
  rcases hb with rfl | rfl <;> exact Jhl (by omega) (by omega)
 ·by_cases h3 : c < 0x10000
  ·rw [Jhk hv hn h2 h3]
   refine ⟨by simp, by simp, fun b hb => ?_⟩
   simp only [List.mem_cons, List.not_mem_nil, or_false] at hb
   rcases hb with rfl | rfl | rfl <;> exact Jhl (by omega) (by omega)
  ·rw [Jil hv hn h2 h3]
   refine ⟨by simp, by simp, fun b hb => ?_⟩
   simp only [List.mem_cons, List.not_mem_nil, or_false] at hb
   rcases hb with rfl | rfl | rfl | rfl <;> exact Jhl (by omega) (by omega)
theorem Jjl {st : St} {c : Int} : Jbx Tryz.prog st 21 9 (.int .i32 c) = some (.str (S.ofList (Utf8.encode c).data.toList)) := by
 have h : Jbx Tryz.prog st 21 9 (.int .i32 c) = QJ Tryz.prog (fun l => convert 21 9 (l.getD 0 undef)) [.int .i32 c] := by
  simp only [Jbx, Tryz.underlying21, Tryz.underlying9]
 rw [h]
 simp only [QJ, Jc, ofV]
 have h2 : QI Tryz.prog (convert 21 9 (.int .i32 c)) = some (.string (Utf8.encode c)) := by
  simp only [convert, Q4, Q6 Tryz.underlying21, Q6 Tryz.underlying9, Option.bind_some]
  rfl
 show (match QI Tryz.prog (convert 21 9 (.int .i32 c)) with
  | some v => toV 6 v
  | none => none) = _
 rw [h2]
 rfl
theorem Jjm {st : St} {c : Nat} (hc : c < 128) : Jbx Tryz.prog st 21 5 (.int .i32 (c : Int)) = some (.int .u8 (c : Int)) := by
 have h : Jbx Tryz.prog st 21 5 (.int .i32 (c : Int)) = QJ Tryz.prog (fun l => convert 21 5 (l.getD 0 undef)) [.int .i32 (c : Int)] := by
  simp only [Jbx, Tryz.underlying21, Tryz.underlying5]
 rw [h]
 simp only [QJ, Jc, ofV]
 have h2 : QI Tryz.prog (convert 21 5 (.int .i32 (c : Int))) = some (.int .u8 (IntKind.u8.wrap (c : Int))) := by
  simp only [convert, Q4, Q6 Tryz.underlying21, Q6 Tryz.underlying5, Option.bind_some]
  rfl
 have h3 : IntKind.u8.wrap (c : Int) = (c : Int) := by
  simp [IntKind.wrap, IntKind.bits, IntKind.signed]
  omega
 show (match QI Tryz.prog (convert 21 5 (.int .i32 (c : Int))) with
  | some v => toV 6 v
  | none => none) = _
 rw [h2, h3]
 rfl
def specialS : S := S.ofList [32, 9, 10, 39, 34, 92, 36, 59, 38, 124, 60, 62, 40, 41, 42, 63, 91, 96, 0]
theorem Jbp : specialS.toList = specials := S.toList_ofList _
theorem Jc2 : ∀ b ∈ specials, b.toNat < 128 := by decide
def Jn6 (c : Nat) (st : St) (v : V) (st' : St) : Prop := ∃ w : Int, v = .int .i64 w ∧ (0 ≤ w ↔ c < 128 ∧ UInt8.ofNat c ∈ specials) ∧ Keep st st'
variable [Memo] [NY]
theorem JmB (gl : Gl) (st : St) (c : Nat) (hv : Utf8.valid (c : Int) = true) : W Tryz.prog (.call gl 158 [.int .i32 (c : Int)]) st = .call (.val (.bool true) st) := by
 simp only [Utf8.valid, Bool.or_eq_true, Bool.and_eq_true, decide_eq_true_eq] at hv
 refine Qg (NY.no _ rfl rfl rfl _ _) Tryz.func158 rfl (by kernel_rfl) ?_
 repeat refine Does.seq ?_
 refine Does.region ?_
 simp
 repeat refine Does.seq ?_
 refine Does.block ?_
 repeat refine Does.seq ?_
 refine Does.region ?_
 by_cases h1 : (c : Int) < 55296
 ·simp [JbT, JbS, h1]
  repeat refine Does.seq ?_
  refine Does.condT (by simp) ?_
  repeat refine Does.seq ?_
  refine Does.region ?_
  simp
  refine Does.ret ?_
  simp []
 ·have h2 : (57343 : Int) < (c : Int) := by omega
  have h3 : (c : Int) ≤ 1114111 := by omega
  simp [JbT, JbS, h1]
  repeat refine Does.seq ?_
  refine Does.condF (by simp) ?_
  repeat refine Does.seq ?_
  refine Does.region ?_
  simp [JbT, JbS, h2, h3]
  repeat refine Does.seq ?_
  refine Does.condT (by simp) ?_
  repeat refine Does.seq ?_
  refine Does.region ?_
  simp
  refine Does.ret ?_
  simp []
theorem Jhn (gl : Gl) (hbad : ∀ st, ihCall (W Tryz.prog) gl (.f 145) [.str specialS, .int .i32 65533] st = .val (.int .i64 (-1)) st) (st : St) (c : Nat) (hc : c < 128 ∨ c = 65533 ∨ (128 ≤ c ∧ Utf8.valid (c : Int) = true)) (hno : ∀ args st, c ≠ 65533 → args = [V.str specialS, .int .i32 (c : Int)] → (Memo.look 145).run args st = none) :
  ∃ v st', ihCall (W Tryz.prog) gl (.f 145) [.str specialS, .int .i32 (c : Int)] st = .val v st' ∧ Jn6 c st v st' := by
 by_cases hcb : c = 65533
 ·subst hcb
  have hcast : (((65533 : Nat)) : Int) = 65533 := by omega
  rw [hcast]
  exact ⟨_, _, hbad st, -1, rfl, ⟨fun h => by omega, fun h => by omega⟩, .refl st⟩
 have hk68 : Jg Tryz.prog 41 = true := by kernel_rfl
 have hk69 : Jg Tryz.prog 158 = true := by kernel_rfl
 have main : ∃ v st', W Tryz.prog (.call gl 145 [.str specialS, .int .i32 (c : Int)]) st = .call (.val v st') ∧ Jn6 c st v st' := by
  refine J3 (hno _ _ hcb rfl) Tryz.func145 rfl (by kernel_rfl) ?_
  repeat refine Does.seq ?_
  refine Does.region ?_
  simp
  repeat refine Does.seq ?_
  refine Does.block ?_
  repeat refine Does.seq ?_
  refine Does.region ?_
  have e1 : ∀ kk, Je Tryz.prog kk .lss 21 (.int .i32 (c : Int)) (.int .i32 128) = some (.bool (decide (c < 128))) := fun kk => QN rfl
  have e0 : ∀ kk, Je Tryz.prog kk .leq 21 (.int .i32 0) (.int .i32 (c : Int)) = some (.bool true) := fun kk => by rw [JbT]; simp
  by_cases h1 : c < 128
  ·rw [decide_eq_true h1] at e1
   have hcall := Jh (JdN gl st specialS c)
   have hge := Jcv specialS.toList c.toUInt8
   rw [Jbp] at hge
   have hcc : c.toUInt8 = UInt8.ofNat c := rfl
   generalize hw : Lib.indexByte specialS.toList c.toUInt8 = w at hcall
   rw [Jbp] at hw
   rw [hw] at hge
   have hcv := Jjm (st := st) h1
   simp [e0, e1]
   repeat refine Does.seq ?_
   refine Does.condT (by simp) ?_
   repeat refine Does.seq ?_
   refine Does.region ?_
   simp [Tryz.underlying21, Tryz.underlying5, hcv, Ja hk68, hcall]
   refine Does.ret ?_
   simp
   exact ⟨w, rfl, by rw [hge, hcc]; exact ⟨fun h => ⟨h1, h⟩, fun h => h.2⟩, .refl st⟩
  ·rw [decide_eq_false h1] at e1
   obtain ⟨h128, hv⟩ : 128 ≤ c ∧ Utf8.valid (c : Int) = true := (hc.resolve_left h1).resolve_left hcb
   have e2 : ∀ kk, Je Tryz.prog kk .eql 21 (.int .i32 (c : Int)) (.int .i32 65533) = some (.bool false) := fun kk => (JE (m := 65533) (by omega)).trans (by rw [decide_eq_false hcb])
   have hvc := Jh (JmB gl st c hv)
   simp [e0, e1]
   repeat refine Does.seq ?_
   refine Does.condF (by simp) ?_
   repeat refine Does.seq ?_
   refine Does.region ?_
   simp [e2]
   repeat refine Does.seq ?_
   refine Does.condF (by simp) ?_
   repeat refine Does.seq ?_
   refine Does.region ?_
   simp [Ja hk69, hvc]
   repeat refine Does.seq ?_
   refine Does.condF (by simp) ?_
   refine Does.scope ?_
   repeat refine Does.seq ?_
   refine Does.region ?_
   obtain ⟨l2, l4, hbs⟩ := Jhm h128 hv
   have hcv := Jjl (st := st) (c := (c : Int))
   have hrl : (S.ofList (Utf8.encode (c : Int)).data.toList).toList = (Utf8.encode (c : Int)).data.toList := S.toList_ofList _
   generalize (Utf8.encode (c : Int)).data.toList = rl at hcv l2 l4 hbs hrl
   have hrn : (S.ofList rl).n = rl.length := rfl
   generalize S.ofList rl = rs at hcv hrl hrn
   have hlr := QC Tryz.underlying9 (s := rs)
   have hlS := QC Tryz.underlying9 (s := specialS)
   have hnS : specialS.n = 19 := rfl
   rw [hnS] at hlS
   simp [Tryz.underlying21, Tryz.underlying9, hcv]
   as_aux_lemma =>
   repeat refine Does.seq ?_
   refine Does.region ?_
   obtain ⟨la, hla⟩ : ∃ la, rs.n = la + 1 := ⟨rs.n - 1, by omega⟩
   rw [hla] at hlr
   have w1 : IntKind.i64.wrap (la : Int) = (la : Int) := Jp (by omega) (by omega)
   simp [hlr, JI, w1]
   repeat refine Does.seq ?_
   refine Does.region ?_
   simp
   repeat refine Does.seq ?_
   refine Does.region ?_
   simp
   repeat refine Does.seq ?_
   refine Does.block (Does.loop ?_)
   repeat refine Does.seq ?_
   refine Does.region ?_
   have e3 : ∀ kk, Je Tryz.prog kk .lss 3 (.int .i64 (la : Int)) (.int .i64 19) = some (.bool true) := fun kk => (QN (m := 19) rfl).trans (by rw [decide_eq_true (by omega)])
   simp [hlS, e3]
   repeat refine Does.seq ?_
   refine Does.condT (by simp) ?_
   refine Does.skip ?_
   simp
   refine Does.block ?_
   refine Does.scope ?_
   repeat refine Does.seq ?_
   refine Does.draw (b := [0, 0, 3, 0, 0, 24, 63]) (l := [0, 1, 2, 3, 4, 5, 6]) (by kernel_rfl) (by kernel_rfl) (by kernel_rfl) ?_
   have i1 := JY (P := Tryz.prog) (k := .i64) Tryz.underlying9 (s := specialS) (i := la) (by rw [hnS]; omega)
   have i2 := JY (P := Tryz.prog) (k := .i64) Tryz.underlying9 (s := rs) (i := la) (by omega)
   have hb1 : specialS.at la < 128 := by
    have := Jc2 _ (Jbp ▸ List.mem_of_getElem? (specialS.toList_at (i := la) (by rw [hnS]; omega)))
    have h2 := specialS.at_lt la
    simp at this; omega
   have hb2 : 128 ≤ rs.at la := by
    have := hbs _ (hrl ▸ List.mem_of_getElem? (rs.toList_at (i := la) (by omega)))
    have h2 := rs.at_lt la
    simp at this; omega
   have e4 : ∀ kk, Je Tryz.prog kk .neq 5 (.int .u8 (specialS.at la : Int)) (.int .u8 (rs.at la : Int)) = some (.bool true) := fun kk => (Jdz rfl).trans (by rw [decide_eq_false (by omega)]; rfl)
   simp [i1, i2, e4]
   repeat refine Does.seq ?_
   refine Does.condT (by simp) ?_
   repeat refine Does.seq ?_
   refine Does.draw (b := [0, 0, 2, 7, 0, 0, 48, 127, 255]) (l := [0, 1, 2, 3, 4, 5, 6, 7, 8]) (by kernel_rfl) (by kernel_rfl) (by kernel_rfl) ?_
   have hsl := Jda (P := Tryz.prog) Tryz.underlying9 (s := specialS) (lo := la + 1) (by rw [hnS]; omega) (k := .i64)
   have hw := Jii (n := la) (m := 1) (by omega)
   have hcall := Jh (JdN gl { ctr := st.ctr + 7 + 9, box := st.box } (specialS.cut (la + 1) specialS.n) (rs.at la))
   have hnone : Lib.indexByte (specialS.cut (la + 1) specialS.n).toList (rs.at la).toUInt8 = -1 := by
    have hlt : ¬ 0 ≤ Lib.indexByte (specialS.cut (la + 1) specialS.n).toList (rs.at la).toUInt8 := by
     rw [Jcv, JeD _ (by rw [hnS]; omega), Jbp]
     intro hm
     have := Jc2 _ (List.mem_of_mem_drop hm)
     have h2 := rs.at_lt la
     simp [Nat.toUInt8] at this; omega
    rw [JbB] at hlt ⊢
    split at hlt
    ·omega
    ·rename_i h; rw [if_neg h]
   rw [hnone] at hcall
   simp at hsl hw
   generalize specialS.cut (la + 1) specialS.n = cu at hsl hcall
   simp [Jq, hw, hsl, i2, Ja hk68, hcall]
   repeat refine Does.seq ?_
   refine Does.region ?_
   simp [JbS]
   repeat refine Does.seq ?_
   refine Does.condT (by simp) ?_
   repeat refine Does.seq ?_
   refine Does.region ?_
   simp
   refine Does.ret ?_
   simp
   exact ⟨-1, rfl, by omega, ((Keep.refl st).tick 7).tick 9⟩
 obtain ⟨v, st', h, hr⟩ := main
 exact ⟨v, st', Jh h, hr⟩
end Go.Vm
namespace Go.Vm
open Go Go.Proofs Go.Sy
set_option maxRecDepth 100000
attribute [local simp] Oks J8 Jj Jo vop Js Jy ev evs toV andThen inBlock Jn Fr.dsTo Fr.glTo Fr.toNone Jk Jl Jm J6 Jc Jz Jw V.undef JU J9 Qk
theorem Jpn : (match Q7 Tryz.prog 165 with
 | some (.agg z) => Nat.beq z.length 256 && z.all Ju
 | _ => false) = true := by kernel_rfl
theorem JpU : ∃ z, Q7 Tryz.prog 165 = some (.agg z) ∧ z.length = 256 ∧ z.all Ju = true := by
 have h := Jpn
 split at h
 ·rename_i z hz
  simp only [Bool.and_eq_true] at h
  exact ⟨z, hz, Nat.eq_of_beq_eq_true h.1, h.2⟩
 ·cases h
theorem JpV : JR Tryz.prog 165 = some 256 := by kernel_rfl
theorem QK {P : Program} {st : St} {t : TypeId} {id n : Nat} {cs l : List V} {e : TypeId} {fl : Bool} (hs : JR P t = some n) (hb : st.box.get id = some (.cells cs e fl (some 0))) (hc : cs.length = n) (hl : l.length = n) (ho : l.all Ju = true) :
  JaN P st t (.ptr id 0) (.agg l) = some { st with box := st.box.put id (.cells l e fl (some 0)) } := by
 have e1 : Nat.beq l.length n = true := by rw [hl, Nat.beq_refl]
 have e2 : Nat.ble (0 + n) cs.length = true := Nat.ble_eq_true_of_le (by omega)
 have e3 : over cs 0 l = l := by simp [over, hl, hc]
 simp only [JaN, hs, hb, V.cells, e1, e2, ho, Jb8, Nat.ble, Bool.and_self, e3]
theorem Jlg {P : Program} {st : St} {t : TypeId} {s : S} (hT : P.underlying t = some .string) : Jfz P st t (.str s) = some (.ptr st.ctr 0, { st with ctr := st.ctr + 1, box := st.box.put st.ctr (.iter s 0) }) := by
 simp only [Jfz, hT]
theorem Jjn {st : St} {id pos : Nat} {s : S} (hb : st.box.get id = some (.iter s pos)) (h : pos < s.n) : JfA st (.ptr id 0) true = some (.tup [.bool true, .int .i64 (pos : Int), .int .i32 ((Utf8.decode ⟨⟨s.toList⟩⟩ pos).1 : Int)], { st with box := st.box.put id (.iter s (pos + (Utf8.decode ⟨⟨s.toList⟩⟩ pos).2)) }) := by
 have : Nat.blt pos s.n = true := by rw [JaU]; exact decide_eq_true h
 simp only [JfA, hb, this]
 rfl
theorem Jjo {st : St} {id pos : Nat} {s : S} (hb : st.box.get id = some (.iter s pos)) (h : ¬ pos < s.n) : JfA st (.ptr id 0) true = some (.tup [.bool false], st) := by
 have : Nat.blt pos s.n = false := by rw [JaU]; exact decide_eq_false h
 simp only [JfA, hb, this]
def JaM (l : List UInt8) : Bool := l.any fun b => specials.elem b
theorem JfY {s : S} {n : Nat} (hn : n < s.n) : JaM (s.toList.take (n + 1)) = (JaM (s.toList.take n) || specials.elem (UInt8.ofNat (s.at n))) := by
 unfold JaM
 rw [List.take_add_one, s.toList_at hn, List.any_append]
 simp
theorem JmC {s : S} {n : Nat} (hn : n < s.n) (h : specials.elem (UInt8.ofNat (s.at n)) = true) : JaM s.toList = true := by
 unfold JaM
 rw [List.any_eq_true]
 exact ⟨_, List.mem_of_getElem? (s.toList_at hn), h⟩
theorem Jim {s : S} {n : Nat} : ∀ m, n + m ≤ s.n → (∀ j, n ≤ j → j < n + m → 128 ≤ s.at j) → JaM (s.toList.take n) = false → JaM (s.toList.take (n + m)) = false
 | 0, _, _, h => h
 | m + 1, hm, hj, h => by
  have ih := Jim m (by omega) (fun j h1 h2 => hj j h1 (by omega)) h
  rw [← Nat.add_assoc, JfY (by omega), ih, Bool.false_or]
  cases he : specials.elem (UInt8.ofNat (s.at (n + m))) with
  | false => rfl
  | true =>
   have h1 := Jc2 _ (by simpa using he)
   have h2 := s.at_lt (n + m)
   have h3 := hj (n + m) (by omega) (by omega)
   simp at h1; omega
def JpW (s : S) (st : St) (v : V) (st' : St) : Prop := ∃ w : Int, v = .int .i64 w ∧ decide (0 ≤ w) = JaM s.toList ∧ Keep st st'
def JpX (gl : Gl) (s : S) (st : St) (e : AE) (fr' : Fr) (st' : St) : Prop := Keep st st' ∧ fr'.ds = [] ∧ ((e = AE.ret ∧ ∃ w : Int, Fr.at fr' 4 = .int .i64 w ∧ decide (0 ≤ w) = JaM s.toList) ∨ (e = AE.normal ∧ fr'.gl = gl ∧ Fr.at fr' 0 = .str s ∧ Fr.at fr' 1 = .str specialS))
structure Hits [Memo] (gl : Gl) (aL : List V) : Prop where
 len : aL.length = 256
 get : ∀ i, i < 256 → aL[i]? = some (.bool (specials.elem (UInt8.ofNat i)))
 one : aL.all Ju = true
 set : ∀ st, ihCall (W Tryz.prog) gl (.f 147) [.str specialS] st = .val (.tup [.agg aL, .bool true]) st
 bad : ∀ st, ihCall (W Tryz.prog) gl (.f 145) [.str specialS, .int .i32 65533] st = .val (.int .i64 (-1)) st
 no : ∀ (c : Nat) st, c ≠ 65533 → (Memo.look 145).run [V.str specialS, .int .i32 (c : Int)] st = none
variable [Memo] [NY]
theorem Jin (gl : Gl) (st : St) (id : Nat) (e : TypeId) (fl : Bool) {aL : List V} (hget : ∀ i, i < 256 → aL[i]? = some (.bool (specials.elem (UInt8.ofNat i)))) (hb : st.box.get id = some (.cells aL e fl (some 0))) (c : Nat) (hc : c < 256) :
  W Tryz.prog (.call gl 148 [.ptr id 0, .int .u8 (c : Int)]) st = .call (.val (.bool (specials.elem (UInt8.ofNat c))) st) := by
 have z4 : JR Tryz.prog 4 = some 1 := by kernel_rfl
 have a4 : QO Tryz.prog 4 = some false := by kernel_rfl
 have hblt : Nat.blt c 256 = true := by rw [JaU]; exact decide_eq_true hc
 have hia : Jd Tryz.prog 165 (.ptr id 0) (.int .u8 (c : Int)) = some (.ptr id c) := by
  simp only [Jd, Tryz.underlying165, Qa, z4, hblt, Nat.mul_one, Nat.zero_add]
 have hl := Jf (P := Tryz.prog) (off := c) a4 z4 hb (hget c hc)
 generalize specials.elem (UInt8.ofNat c) = b at hl
 refine Qg (NY.no _ rfl rfl rfl _ _) Tryz.func148 rfl (by kernel_rfl) ?_
 repeat refine Does.seq ?_
 refine Does.region ?_
 simp
 repeat refine Does.seq ?_
 refine Does.region ?_
 simp [hia, hl]
 refine Does.ret ?_
 simp []
theorem Jlh (gl : Gl) (st : St) (n : Nat) : W Tryz.prog (.call gl 146 [.int .i64 (n : Int)]) st = .call (.val (.bool (decide (8 < n))) st) := by
 have e1 : ∀ kk, Je Tryz.prog kk .gtr 3 (.int .i64 (n : Int)) (.int .i64 8) = some (.bool (decide (8 < n))) := fun kk => Jbd rfl
 generalize decide (8 < n) = b at e1
 refine Qg (NY.no _ rfl rfl rfl _ _) Tryz.func146 rfl (by kernel_rfl) ?_
 repeat refine Does.seq ?_
 refine Does.region ?_
 simp
 repeat refine Does.seq ?_
 refine Does.region ?_
 simp [e1]
 refine Does.ret ?_
 simp []
set_option maxHeartbeats 1000000 in
set_option maxRecDepth 100000 in
theorem Jio (gl : Gl) {aL : List V} (hh : Hits gl aL) (st : St) (s : S) (hs : s.n < 4000000000000000000) :
  ∃ v st', W Tryz.prog (.call gl 135 [.str s, .str specialS]) st = .call (.val v st') ∧ JpW s st v st' := by
 have hk62 : Jg Tryz.prog 145 = true := by kernel_rfl
 have hk63 : Jg Tryz.prog 146 = true := by kernel_rfl
 have hk64 : Jg Tryz.prog 147 = true := by kernel_rfl
 have hk65 : Jg Tryz.prog 148 = true := by kernel_rfl
 have hlen := QC Tryz.underlying9 (s := s)
 have hlS := QC Tryz.underlying9 (s := specialS)
 have hnS : specialS.n = 19 := rfl
 rw [hnS] at hlS
 have hsS : specialS.same (S.ofList []) = false := by rw [QH, hnS]; rfl
 refine J3 (NY.no _ rfl rfl rfl _ _) Tryz.func135 rfl (by kernel_rfl) ?_
 repeat refine Does.seq ?_
 refine Does.region ?_
 simp
 repeat refine Does.seq ?_
 refine Does.region ?_
 simp [Ji, hsS]
 repeat refine Does.seq ?_
 refine Does.condF (by simp) ?_
 refine Does.skip ?_
 simp
 repeat refine Does.seq ?_
 refine Does.region ?_
 simp [hlS, Jc0]
 repeat refine Does.seq ?_
 refine Does.condF (by simp) ?_
 refine Does.skip ?_
 simp
 repeat refine Does.seq ?_
 refine Does.region ?_
 have hsh := Jh (Jlh gl st s.n)
 refine Oks.cont (Q := fun fr st' => st' = st ∧ Fr.at fr 26 = .bool (decide (8 < s.n)) ∧ fr.ds = [] ∧ fr.gl = gl ∧ Fr.at fr 0 = .str s ∧ Fr.at fr 1 = .str specialS) ?r8 ?rest
 case r8 =>
  generalize decide (8 < s.n) = b at hsh
  simp [hlen, Ja hk63, hsh]
 case rest =>
 rintro fr st' ⟨hst', h26, hds, hg, h0, h1⟩
 rw [hst']
 clear hst'
 simp only [andThen]
 repeat refine Does.seq ?_
 refine Does.mono (Q := JpX gl s st) ?big ?tail
 case big =>
  by_cases h8 : 8 < s.n
  ·rw [decide_eq_true h8] at h26
   refine Does.condT (by simp [h26]) ?_
   repeat refine Does.seq ?_
   refine Does.region ?_
   have hset := hh.set st
   obtain ⟨z256, hz67, hzl, hz1⟩ := JpU
   have hzc : (V.agg z256).cells = z256 := rfl
   have hst := QK (P := Tryz.prog) (st := { ctr := st.ctr + 1, box := st.box.put st.ctr (.cells z256 165 true (some 0)) }) (id := st.ctr) (cs := z256) (l := aL) (e := 165) (fl := true) JpV (by rw [Tr.get_put, if_pos rfl]) hzl hh.len hh.one
   have hkp : Keep st { ctr := st.ctr + 1, box := (st.box.put st.ctr (.cells z256 165 true (some 0))).put st.ctr (.cells aL 165 true (some 0)) } := Keep.put (id := st.ctr) ((Keep.refl st).new _) (Nat.le_refl _) _
   have hbx : ({ ctr := st.ctr + 1, box := (st.box.put st.ctr (.cells z256 165 true (some 0))).put st.ctr (.cells aL 165 true (some 0)) } : St).box.get st.ctr = some (.cells aL 165 true (some 0)) := by rw [Tr.get_put, if_pos rfl]
   simp only at hst
   obtain ⟨b1, hb1⟩ : ∃ b, b = true := ⟨true, rfl⟩
   have hz2 : z256.all Ju = b1 := by rw [hz1, hb1]
   simp [h1, hg, Ja hk64, hset, Jv, hz67, hzc, hz2, hb1, JM, Qe, hst]
   revert hkp hbx
   generalize ({ ctr := st.ctr + 1, box := (st.box.put st.ctr (.cells z256 165 true (some 0))).put st.ctr (.cells aL 165 true (some 0)) } : St) = st1
   intro hkp hbx
   repeat refine Does.seq ?_
   refine Does.region ?_
   simp
   repeat refine Does.seq ?_
   refine Does.condT (by simp) ?_
   repeat refine Does.seq ?_
   refine Does.region ?_
   simp
   refine Does.mono (Q := fun e fr' st' => st' = st1 ∧ fr'.ds = [] ∧ ((e = AE.ret ∧ ∃ w : Int, Fr.at fr' 4 = .int .i64 w ∧ decide (0 ≤ w) = JaM s.toList) ∨ (e = AE.normal ∧ JaM s.toList = false))) ?aloop ?atail
   case atail =>
    rintro e fr' st' ⟨rfl, hds, ⟨rfl, w, h4, hw⟩ | ⟨rfl, hno⟩⟩
    ·exact ⟨hkp, hds, .inl ⟨rfl, w, h4, hw⟩⟩
    ·simp only [andThen]
     repeat refine Does.seq ?_
     refine Does.region ?_
     simp
     refine Does.ret ?_
     exact ⟨hkp, by simp [hds], .inl ⟨rfl, -1, by simp, by rw [hno]; rfl⟩⟩
   case aloop =>
    generalize hA : JaM s.toList = A
    refine Does.block (Does.up s.n (fun n fr st' => st' = st1 ∧ fr.ds = [] ∧ fr.gl = gl ∧ Fr.at fr 0 = .str s ∧ Fr.at fr 6 = .ptr st.ctr 0 ∧ Fr.at fr 8 = .int .i64 (n : Int) ∧ n ≤ s.n ∧ JaM (s.toList.take n) = false) 0 ?init ?JH ?step)
    case init => exact ⟨rfl, by simp [hds], by simp [hg], by simp [h0], by simp, by simp, Nat.zero_le _, rfl⟩
    case JH => exact fun i fr st' h => h.2.2.2.2.2.2.1
    case step =>
     clear hds hg h0 h1
     rintro n fr st' ⟨rfl, hds, hg, h0, h6, h8', hn, hall⟩
     repeat refine Does.seq ?_
     refine Does.region ?_
     have elen : ∀ kk, Je Tryz.prog kk .lss 3 (.int .i64 (n : Int)) (.int .i64 (s.n : Int)) = some (.bool (decide (n < s.n))) := fun kk => QN rfl
     by_cases hlt : n < s.n
     ·rw [decide_eq_true hlt] at elen
      have hix2 := JY (P := Tryz.prog) (k := .i64) Tryz.underlying9 hlt
      have hco := Jh (Jin gl st' st.ctr 165 true hh.get hbx (s.at n) (s.at_lt n))
      have w1 : IntKind.i64.wrap ((n : Int) + 1) = (n : Int) + 1 := Jp (by omega) (by omega)
      simp [h0, h8', hlen, elen]
      repeat refine Does.seq ?_
      refine Does.condT (by simp) ?_
      refine Does.skip ?_
      simp
      repeat refine Does.seq ?_
      refine Does.block ?_
      repeat refine Does.seq ?_
      refine Does.region ?_
      cases hcc : specials.elem (UInt8.ofNat (s.at n)) with
      | true =>
       rw [hcc] at hco
       simp [h0, h6, h8', hg, hix2, Ja hk65, hco]
       repeat refine Does.seq ?_
       refine Does.condT (by simp) ?_
       repeat refine Does.seq ?_
       refine Does.region ?_
       simp [h8']
       refine Does.ret ?_
       simp only [inBlock, andThen]
       exact ⟨trivial, by simp [hds], .inl ⟨trivial, (n : Int), by simp, by rw [← hA, JmC hlt hcc]; simp⟩⟩
      | false =>
       rw [hcc] at hco
       simp [h0, h6, h8', hg, hix2, Ja hk65, hco]
       repeat refine Does.seq ?_
       refine Does.condF (by simp) ?_
       refine Does.skip ?_
       simp
       refine Does.region ?_
       simp [h8', Jq, w1]
       exact ⟨n + 1, by omega, hds, hg, h0, h6, by simp, by omega, by rw [JfY hlt, hall, hcc]; rfl⟩
     ·rw [decide_eq_false hlt] at elen
      simp [h0, h8', hlen, elen]
      repeat refine Does.seq ?_
      refine Does.condF (by simp) ?_
      refine Does.exit ?_
      simp only [inBlock, if_true, andThen]
      rw [List.take_of_length_le (by simp; omega)] at hall
      exact ⟨trivial, by simp [hds], .inr ⟨trivial, hA.symm.trans hall⟩⟩
  ·rw [decide_eq_false h8] at h26
   refine Does.condF (by simp [h26]) ?_
   refine Does.skip ?_
   exact ⟨.refl st, hds, .inr ⟨rfl, hg, h0, h1⟩⟩
 case tail =>
  clear hds hg h0 h1 h26
  rintro e fr st1 ⟨hk1, hds, ⟨rfl, w, h4, hw⟩ | ⟨rfl, hg, h0, h1⟩⟩
  ·simp only [andThen]
   simp [hds, h4]
   exact ⟨w, rfl, hw, hk1⟩
  ·simp only [andThen]
   repeat refine Does.seq ?_
   refine Does.region ?_
   have hvr := Jlg (P := Tryz.prog) (st := st1) (s := s) Tryz.underlying9
   have hkn : Keep st { st1 with ctr := st1.ctr + 1, box := st1.box.put st1.ctr (.iter s 0) } := hk1.new _
   have hbx : ({ st1 with ctr := st1.ctr + 1, box := st1.box.put st1.ctr (.iter s 0) } : St).box.get st1.ctr = some (.iter s 0) := by rw [Tr.get_put, if_pos rfl]
   have hct : st1.ctr < ({ st1 with ctr := st1.ctr + 1, box := st1.box.put st1.ctr (.iter s 0) } : St).ctr := Nat.lt_succ_self _
   simp [h0, Qe, hvr]
   have hst1 : st.ctr ≤ st1.ctr := hk1.ctr
   revert hkn hbx hct
   generalize ({ ctr := st1.ctr + 1, box := st1.box.put st1.ctr (.iter s 0) } : St) = st2
   generalize st1.ctr = id at hst1
   intro hkn hbx hct
   refine Does.mono (Q := fun e fr' st' => Keep st st' ∧ fr'.ds = [] ∧ ((e = AE.ret ∧ ∃ w : Int, Fr.at fr' 4 = .int .i64 w ∧ decide (0 ≤ w) = JaM s.toList) ∨ (e = AE.normal ∧ JaM s.toList = false))) ?rloop ?rtail
   case rtail =>
    clear hds hg h0 h1
    rintro e fr' st' ⟨hk', hds, ⟨rfl, w, h4, hw⟩ | ⟨rfl, hno⟩⟩
    ·simp only [andThen]
     simp [hds, h4]
     exact ⟨w, rfl, hw, hk'⟩
    ·simp only [andThen]
     repeat refine Does.seq ?_
     refine Does.region ?_
     simp
     refine Does.ret ?_
     simp [hds]
     exact ⟨-1, rfl, by rw [hno]; rfl, hk'⟩
   case rloop =>
    generalize hA : JaM s.toList = A
    refine Does.block (Does.up s.n (fun n fr st' => Keep st st' ∧ id < st'.ctr ∧ st'.box.get id = some (.iter s n) ∧ fr.ds = [] ∧ fr.gl = gl ∧ Fr.at fr 1 = .str specialS ∧ Fr.at fr 45 = .ptr id 0 ∧ n ≤ s.n ∧ JaM (s.toList.take n) = false) 0 ?init ?JH ?step)
    case init => exact ⟨hkn, hct, hbx, by simp [hds], by simp [hg], by simp [h1], by simp, Nat.zero_le _, rfl⟩
    case JH => exact fun i fr st' h => h.2.2.2.2.2.2.2.1
    case step =>
     clear hds hg h0 h1 hkn hct hbx hvr
     rintro n fr st' ⟨hk', hct, hbx, hds, hg, h1, h45, hn, hall⟩
     repeat refine Does.seq ?_
     refine Does.region ?_
     by_cases hlt : n < s.n
     ·have hnx := Jjn hbx hlt
      obtain ⟨d1, d2⟩ := Jhj s hlt
      generalize Utf8.decode ⟨⟨s.toList⟩⟩ n = d at hnx d1 d2
      obtain ⟨c, wd⟩ := d
      simp only at hnx d2
      simp [h45, Qe, hnx]
      have hk2 : Keep st { ctr := st'.ctr, box := st'.box.put id (.iter s (n + wd)) } := hk'.put hst1 _
      have hbx2 : ({ ctr := st'.ctr, box := st'.box.put id (.iter s (n + wd)) } : St).box.get id = some (.iter s (n + wd)) := by rw [Tr.get_put, if_pos rfl]
      have hct2 : id < ({ ctr := st'.ctr, box := st'.box.put id (.iter s (n + wd)) } : St).ctr := hct
      revert hk2 hbx2 hct2
      generalize ({ ctr := st'.ctr, box := st'.box.put id (.iter s (n + wd)) } : St) = st3
      intro hk2 hbx2 hct2
      repeat refine Does.seq ?_
      refine Does.condT (by simp) ?_
      refine Does.skip ?_
      simp
      refine Does.block ?_
      repeat refine Does.seq ?_
      refine Does.region ?_
      simp
      repeat refine Does.seq ?_
      refine Does.region ?_
      have hcc : c < 128 ∨ c = 65533 ∨ (128 ≤ c ∧ Utf8.valid (c : Int) = true) := by
       rcases Nat.lt_or_ge (s.at n) 128 with h | h
       ·have := d1 h
        simp only [Prod.mk.injEq] at this
        left; omega
       ·obtain ⟨q1, q2, _⟩ := d2 h
        rcases q2 with q2 | q2
        ·exact .inr (.inl q2)
        ·exact .inr (.inr ⟨q1, q2⟩)
      obtain ⟨v, st4, hcall, w, rfl, hw, hk4⟩ := Jhn gl hh.bad st3 c hcc (fun args st h1 h2 => by rw [h2]; exact hh.no c st h1)
      have hsp : decide (0 ≤ w) = (decide (s.at n < 128) && specials.elem (UInt8.ofNat (s.at n))) := by
       rw [Bool.eq_iff_iff, decide_eq_true_eq, hw, Bool.and_eq_true, decide_eq_true_eq]
       rcases Nat.lt_or_ge (s.at n) 128 with h | h
       ·have := d1 h
        simp only [Prod.mk.injEq] at this
        obtain ⟨rfl, rfl⟩ := this
        simp
       ·obtain ⟨q1, _⟩ := d2 h
        constructor
        ·rintro ⟨h1, _⟩; omega
        ·rintro ⟨h1, _⟩; omega
      simp [h1, hg, Ja hk62, hcall, JaR]
      repeat refine Does.seq ?_
      by_cases hw0 : 0 ≤ w
      ·refine Does.condT (by simp [hw0]) ?_
       repeat refine Does.seq ?_
       refine Does.region ?_
       simp
       refine Does.ret ?_
       rw [decide_eq_true hw0] at hsp
       have hsp2 := hsp.symm
       simp only [Bool.and_eq_true] at hsp2
       simp only [inBlock, andThen]
       exact ⟨hk2.trans hk4, by simp [hds], .inl ⟨trivial, (n : Int), by simp, by rw [← hA, JmC hlt hsp2.2]; simp⟩⟩
      ·refine Does.condF (by simp [hw0]) ?_
       refine Does.skip ?_
       simp
       rw [decide_eq_false hw0] at hsp
       have hbx4 : st4.box.get id = some (.iter s (n + wd)) := by rw [hk4.box id hct2]; exact hbx2
       rcases Nat.lt_or_ge (s.at n) 128 with h | h
       ·have := d1 h
        simp only [Prod.mk.injEq] at this
        obtain ⟨rfl, rfl⟩ := this
        rw [decide_eq_true h, Bool.true_and] at hsp
        exact ⟨n + 1, by omega, hk2.trans hk4, by have := hk4.ctr; omega, hbx4, hds, hg, h1, h45, by omega, by rw [JfY hlt, hall, ← hsp]; rfl⟩
       ·obtain ⟨_, _, q3, q4, q5⟩ := d2 h
        exact ⟨n + wd, by omega, hk2.trans hk4, by have := hk4.ctr; omega, hbx4, hds, hg, h1, h45, q4, Jim wd q4 q5 hall⟩
     ·have hnx := Jjo hbx hlt
      simp [h45, Qe, hnx]
      repeat refine Does.seq ?_
      refine Does.condF (by simp) ?_
      refine Does.exit ?_
      simp only [inBlock, if_true, andThen]
      rw [List.take_of_length_le (by simp; omega)] at hall
      exact ⟨hk', by simp [hds], .inr ⟨trivial, hA.symm.trans hall⟩⟩
theorem JfZ (gl : Gl) {aL : List V} (hh : Hits gl aL) (st : St) (s : S) (hs : s.n < 4000000000000000000) :
  ∃ v st', W Tryz.prog (.call gl 120 [.str s, .str specialS]) st = .call (.val v st') ∧ v = .bool (JaM s.toList) ∧ Keep st st' := by
 have hk57 : Jg Tryz.prog 135 = true := by kernel_rfl
 obtain ⟨v, st', hc, w, rfl, hw, hk⟩ := Jio gl hh st s hs
 have hc := Jh hc
 refine J3 (NY.no _ rfl rfl rfl _ _) Tryz.func120 rfl (by kernel_rfl) ?_
 repeat refine Does.seq ?_
 refine Does.region ?_
 simp
 repeat refine Does.seq ?_
 refine Does.region ?_
 simp [Ja hk57, hc, JaR]
 refine Does.ret ?_
 rw [← hw]
 simp [hk]
omit [Memo] [NY] in
theorem Jli (s : S) (first : Bool) : JcN s.toList first = (!decide (s.n = 0) && !JaM s.toList && !(first && (decide (s.at 0 = 35) || decide (s.at 0 = 126)))) := by
 by_cases h0 : s.n = 0
 ·have : s.toList = [] := List.eq_nil_of_length_eq_zero (by rw [S.len, h0])
  rw [this, decide_eq_true h0]; rfl
 ·have h1 := s.drop_at (i := 0) (by omega)
  rw [List.drop_zero] at h1
  rw [decide_eq_false h0]
  have e35 : (UInt8.ofNat (s.at 0) = 35) ↔ s.at 0 = 35 := JbA (b := 35) (s.at_lt 0) (by decide)
  have e126 : (UInt8.ofNat (s.at 0) = 126) ↔ s.at 0 = 126 := JbA (b := 126) (s.at_lt 0) (by decide)
  unfold JcN
  have hne : s.toList.isEmpty = false := by rw [h1]; rfl
  have hhd : s.toList.head? = some (UInt8.ofNat (s.at 0)) := by rw [h1]; rfl
  have hall : (s.toList.all fun c => !specials.elem c) = !JaM s.toList := by
   unfold JaM
   rw [List.not_any_eq_all_not]
  rw [hne, hhd, hall]
  have q1 : (some (UInt8.ofNat (s.at 0)) == some 35) = decide (s.at 0 = 35) := by rw [Bool.eq_iff_iff]; simp [e35]
  have q2 : (some (UInt8.ofNat (s.at 0)) == some 126) = decide (s.at 0 = 126) := by rw [Bool.eq_iff_iff]; simp [e126]
  rw [q1, q2]
theorem JmD (gl : Gl) {aL : List V} (hh : Hits gl aL) (st : St) (s : S) (first : Bool) (hs : s.n < 4000000000000000000) :
  ∃ v st', W Tryz.prog (.call gl 103 [.str s, .bool first]) st = .call (.val v st') ∧ v = .bool (JcN s.toList first) ∧ Keep st st' := by
 have hk49 : Jg Tryz.prog 120 = true := by kernel_rfl
 obtain ⟨v, st', hc, rfl, hk⟩ := JfZ gl hh st s hs
 have hc := Jh hc
 have hse := QH s
 rw [Jli]
 unfold specialS at hc
 refine J3 (NY.no _ rfl rfl rfl _ _) Tryz.func103 rfl (by kernel_rfl) ?_
 repeat refine Does.seq ?_
 refine Does.region ?_
 simp
 repeat refine Does.seq ?_
 refine Does.region ?_
 by_cases h0 : s.n = 0
 ·rw [decide_eq_true h0] at hse
  rw [decide_eq_true h0]
  simp [Jt, hse]
  refine Does.ret ?_
  simp [Keep.refl]
 ·have hix := JY (P := Tryz.prog) (k := .i64) Tryz.underlying9 (s := s) (i := 0) (by omega)
  simp only [Int.cast_ofNat_Int] at hix
  have f1 : ∀ kk, Je Tryz.prog kk .eql 5 (.int .u8 (s.at 0 : Int)) (.int .u8 35) = some (.bool (decide (s.at 0 = 35))) := fun kk => JE rfl
  have f2 : ∀ kk, Je Tryz.prog kk .eql 5 (.int .u8 (s.at 0 : Int)) (.int .u8 126) = some (.bool (decide (s.at 0 = 126))) := fun kk => JE rfl
  rw [decide_eq_false h0] at hse
  rw [decide_eq_false h0]
  generalize JaM s.toList = A at hc
  generalize decide (s.at 0 = 35) = b1 at f1
  generalize decide (s.at 0 = 126) = b2 at f2
  cases A <;> cases first <;> cases b1 <;> cases b2 <;> simp [Jt, hse, Ja hk49, hc, hix, f1, f2] <;> refine Does.ret ?_ <;> simp [hk]
end Go.Vm
namespace Go.Vm
open Go Go.Proofs Go.Sy
set_option maxRecDepth 100000
attribute [local simp] Oks J8 Jj Jo vop Js Jy ev evs toV andThen inBlock Jn Fr.dsTo Fr.glTo Fr.toNone Jk Jl Jm J6 Jc Jz Jw V.undef JU J9 Qk
structure Wp where
 v : Bool
 t : S
 q : Bool
 deriving Inhabited
def Wp.cells (p : Wp) : List V := [.bool p.v, .str p.t, .bool p.q]
def Wp.key (p : Wp) : Bool × List UInt8 × Bool := (p.v, p.t.toList, p.q)
def Jaa (l : List Wp) : List V := l.flatMap Wp.cells
theorem JaD (l : List Wp) : (Jaa l).length = l.length * 3 := by
 induction l with
 | nil => rfl
 | cons a l ih => simp only [Jaa, List.flatMap_cons, List.length_append] at ih ⊢; rw [ih]; simp [Wp.cells]; omega
theorem Jip (l m : List Wp) : Jaa (l ++ m) = Jaa l ++ Jaa m := by simp [Jaa]
theorem Jf0 (l : List Wp) : (Jaa l).all Ju = true := by
 induction l with
 | nil => rfl
 | cons a l ih => simp only [Jaa, List.flatMap_cons, List.all_append] at ih ⊢; rw [ih]; rfl
theorem Jdh : ∀ (l : List Wp) (i : Nat), (Jaa l).drop (i * 3) = Jaa (l.drop i)
 | l, 0 => by simp
 | [], i + 1 => by simp [Jaa]
 | a :: l, i + 1 => by
  have ih := Jdh l i
  have e : Jaa (a :: l) = a.cells ++ Jaa l := rfl
  have h3 : a.cells.length = 3 := rfl
  rw [e, show (i + 1) * 3 = a.cells.length + i * 3 by rw [h3]; omega, List.drop_append]
  simp only [Nat.add_sub_cancel_left, List.drop_of_length_le (Nat.le_add_right ..), List.nil_append]
  rw [ih]; rfl
inductive AdP (st : St) : V → Wp → Prop
 | cp (p : Wp) (r : List V) : AdP st (.cp (p.cells ++ r)) p
 | ptr (p : Wp) (id off : Nat) (cs r : List V) (e : TypeId) (fl : Bool) (fz : Option Nat) (hb : st.box.get id = some (.cells cs e fl fz)) (hid : id < st.ctr) (hd : cs.drop off = p.cells ++ r) : AdP st (.ptr id off) p
theorem z33 : JR Tryz.prog 43 = some 3 := by kernel_rfl
theorem a33 : QO Tryz.prog 43 = some true := by kernel_rfl
theorem sz4 : JR Tryz.prog 4 = some 1 := by kernel_rfl
theorem sa4 : QO Tryz.prog 4 = some false := by kernel_rfl
theorem sz9 : JR Tryz.prog 9 = some 1 := by kernel_rfl
theorem sa9 : QO Tryz.prog 9 = some false := by kernel_rfl
theorem Jca : JR Tryz.prog 39 = some 1 := by kernel_rfl
theorem Jcn : QO Tryz.prog 39 = some false := by kernel_rfl
theorem pf0 (l : List V) : JD Tryz.prog 43 (.cp l) 0 = some (.cp l) := by kernel_rfl
theorem pf1 (l : List V) : JD Tryz.prog 43 (.cp l) 1 = some (.cp (l.drop 1)) := by kernel_rfl
theorem pf2 (l : List V) : JD Tryz.prog 43 (.cp l) 2 = some (.cp (l.drop 2)) := by kernel_rfl
theorem pg0 (id off : Nat) : JD Tryz.prog 43 (.ptr id off) 0 = some (.ptr id off) := by kernel_rfl
theorem pg1 (id off : Nat) : JD Tryz.prog 43 (.ptr id off) 1 = some (.ptr id (off + 1)) := by kernel_rfl
theorem pg2 (id off : Nat) : JD Tryz.prog 43 (.ptr id off) 2 = some (.ptr id (off + 2)) := by kernel_rfl
theorem AdP.loads {st : St} {a : V} {p : Wp} (h : AdP st a p) : JB Tryz.prog st 43 a = some (.agg p.cells) ∧
  (∃ b, JD Tryz.prog 43 a 0 = some b ∧ JB Tryz.prog st 4 b = some (.bool p.v)) ∧ (∃ b, JD Tryz.prog 43 a 1 = some b ∧ JB Tryz.prog st 9 b = some (.str p.t)) ∧ (∃ b, JD Tryz.prog 43 a 2 = some b ∧ JB Tryz.prog st 4 b = some (.bool p.q)) := by
 cases h with
 | cp p r =>
  refine ⟨?_, ⟨_, pf0 _, ?_⟩, ⟨_, pf1 _, ?_⟩, ⟨_, pf2 _, ?_⟩⟩
  ·simp only [JB, Q5, a33, z33, sub]
   rfl
  ·simp only [JB, Q5, sa4, sz4]; rfl
  ·simp only [JB, Q5, sa9, sz9]; rfl
  ·simp only [JB, Q5, sa4, sz4]; rfl
 | ptr p id off cs r e fl fz hb hid hd =>
  have hlen : off + 3 ≤ cs.length := by
   have := congrArg List.length hd
   simp [Wp.cells] at this; omega
  have g : ∀ k, k < 3 → cs[off + k]? = p.cells[k]? := fun k hk => by
   have := congrArg (fun z => z[k]?) hd
   simp only [List.getElem?_drop] at this
   rw [this, List.getElem?_append_left (by simpa [Wp.cells] using hk)]
  refine ⟨?_, ⟨_, pg0 _ _, Jf sa4 sz4 hb (g 0 (by decide))⟩, ⟨_, pg1 _ _, Jf sa9 sz9 hb (g 1 (by decide))⟩, ⟨_, pg2 _ _, Jf sa4 sz4 hb (g 2 (by decide))⟩⟩
  have e1 : Nat.ble (off + 3) cs.length = true := Nat.ble_eq_true_of_le hlen
  simp only [JB, hb, Q5, a33, z33, e1, sub, hd]
  rfl
inductive Vp (st : St) : V → List Wp → Prop
 | nils : Vp st .nils []
 | sl (l : List Wp) (ex : Bool) : Vp st (.sl l.length (Jaa l) ex) l
 | ms (id off : Nat) (cap : Option Nat) (cs r : List V) (e : TypeId) (fl : Bool) (fz : Option Nat) (l : List Wp) (hb : st.box.get id = some (.cells cs e fl fz)) (hid : id < st.ctr) (hd : cs.drop off = Jaa l ++ r) (ho : off ≤ cs.length) (hc : JbM l.length l.length cap = true) : Vp st (.ms id off l.length 3 cap) l
theorem Vp.keep {st st' : St} (hk : Keep st st') {x : V} {l : List Wp} (h : Vp st x l) : Vp st' x l := by
 cases h with
 | nils => exact .nils
 | sl l ex => exact .sl l ex
 | ms id off cap cs r e fl fz l hb hid hd ho hc => exact .ms id off cap cs r e fl fz l (by rw [hk.box id hid]; exact hb) (Nat.lt_of_lt_of_le hid hk.ctr) hd ho hc
theorem Vp.one {st : St} {x : V} {l : List Wp} (h : Vp st x l) : Ju x = true := by cases h <;> rfl
theorem Vp.len {st : St} {x : V} {l : List Wp} (h : Vp st x l) : QU Tryz.prog 39 x = some (.int .i64 (l.length : Int)) := by
 cases h <;> simp [QU, Tryz.underlying39]
theorem Vp.get {st : St} {x : V} {l : List Wp} (h : Vp st x l) {i : Nat} (hi : i < l.length) : ∃ a, (∀ k, Jd Tryz.prog 39 x (.int k (i : Int)) = some a) ∧ AdP st a (l.getD i default) := by
 have hb : Nat.blt i l.length = true := by rw [JaU]; exact decide_eq_true hi
 have hdr : (Jaa l).drop (i * 3) = (l.getD i default).cells ++ Jaa (l.drop (i + 1)) := by
  rw [Jdh, List.drop_eq_getElem_cons hi, List.getD_eq_getElem?_getD, List.getElem?_eq_getElem hi]
  rfl
 cases h with
 | nils => simp at hi
 | sl l ex =>
  refine ⟨.cp ((Jaa l).drop (i * 3)), fun k => by simp only [Jd, Tryz.underlying39, Qa, z33, hb], ?_⟩
  rw [hdr]
  exact .cp _ _
 | ms id off cap cs r e fl fz l hbx hid hd ho hc =>
  refine ⟨.ptr id (off + i * 3), fun k => by simp only [Jd, Tryz.underlying39, Qa, z33, hb], ?_⟩
  refine .ptr _ id _ cs (Jaa (l.drop (i + 1)) ++ r) e fl fz hbx hid ?_
  rw [← List.drop_drop, hd, List.drop_append_of_le_length (by rw [JaD]; omega), hdr, List.append_assoc]
theorem JnI {P : Program} {d : Nat} {t : TypeId} {a b : Bool} (h : P.underlying t = some .bool) : QI P (Op.equalIn (d + 1) t (.bool a) (.bool b)) = some (a == b) := by
 simp only [Op.equalIn, Q4, Q6 h, Option.bind_some]
 rfl
variable [Memo] [NY]
end Go.Vm
namespace Go.Sy
abbrev Pk := Bool × List UInt8 × Bool
def Q1 (p : Pk) (first : Bool) : Bool := if p.1 = true then Jau p.2.1 else if p.2.2 = true then !p.2.1.elem 0 else JcN p.2.1 first
def JmE (q p : Pk) : Bool := (p.2.2 == q.2.2) && ((!p.1 && !q.1) || (p.2.2 && (p.2.1.isEmpty || q.2.1.isEmpty)))
def Jcb : Option Pk → Pk → Bool
 | none, _ => false
 | some q, p => JmE q p
def JcL : Option Pk → List Pk → Bool
 | _, [] => true
 | pv, p :: r => Q1 p pv.isNone && !Jcb pv p && JcL (some p) r
def JbV (l : List Pk) : Bool := !l.isEmpty && JcL none l
def sp18 : List UInt8 := [32, 9, 10, 39, 34, 92, 36, 59, 38, 124, 60, 62, 40, 41, 42, 63, 91]
def badC (q : Bool) (c : UInt8) : Bool := c == 0 || (!q && (sp18.elem c || c == 96))
def Jd3 : Option Pk → Pk → Bool
 | none, _ => false
 | some q, p => !q.1 && (q.2.2 == p.2.2)
def Ja2 : Option Pk → Bool
 | none => false
 | some q => q.2.2
def Jdi (p : Pk) (first : Bool) : Bool := (p.2.2 || !p.2.1.isEmpty) && p.2.1.all (fun c => !badC p.2.2 c) && !(first && !p.2.2 && (p.2.1.head? == some 35 || p.2.1.head? == some 126))
def Jbh (p : Pk) (pv nx : Option Pk) : Bool := if p.1 = true then Jau p.2.1 else Jdi p pv.isNone && !Jd3 pv p && !(p.2.2 && p.2.1.isEmpty && (Ja2 pv || Ja2 nx))
def Je4 : Option Pk → List Pk → Bool
 | _, [] => true
 | pv, p :: r => Jbh p pv r.head? && Je4 (some p) r
theorem JmF (c : UInt8) : (!badC false c) = !specials.elem c := by
 have h : ∀ n : Nat, n < 256 → (!badC false (UInt8.ofNat n)) = !specials.elem (UInt8.ofNat n) := by decide +kernel
 have hc : UInt8.ofNat c.toNat = c := by simp
 rw [← hc]
 exact h _ c.toNat_lt
theorem Jjp (p : Pk) (first : Bool) (h : p.1 = false) : Jdi p first = Q1 p first := by
 obtain ⟨v, t, q⟩ := p
 simp only at h
 subst h
 unfold Jdi Q1
 cases q with
 | true =>
  simp only [Bool.true_or, Bool.true_and, Bool.false_eq_true, if_false, if_true, Bool.not_true, Bool.and_false, Bool.false_and, Bool.not_false, Bool.and_true]
  have : (fun c => !badC true c) = fun c => !(c == 0) := by funext c; simp [badC]
  rw [this, Bool.eq_iff_iff]
  simp only [List.all_eq_true, Bool.not_eq_true', beq_eq_false_iff_ne, ne_eq, List.elem_eq_mem, decide_eq_false_iff_not]
  constructor
  ·intro h hm; exact h 0 hm rfl
  ·intro h c hc h0; subst h0; exact h hc
 | false =>
  simp only [Bool.false_or, Bool.false_eq_true, if_false, Bool.not_false, Bool.and_true]
  unfold JcN
  have : (fun c => !badC false c) = fun c => !specials.elem c := by funext c; exact JmF c
  rw [this]
theorem Jiq {l : List UInt8} (h : Jau l = true) : l.isEmpty = false := by
 cases l with
 | nil => simp [Jau, QR] at h
 | cons b r => rfl
def JcI : Option Pk → List Pk → Bool
 | some q, p :: _ => !(!q.1 && q.2.2 && q.2.1.isEmpty && p.2.2)
 | _, _ => true
theorem JnJ (p : Pk) (pv : Option Pk) (nx : List Pk) (hv : ∀ q, pv = some q → q.1 = true → q.2.1.isEmpty = false) :
  (Q1 p pv.isNone && !Jcb pv p && JcI (some p) nx) = (JcI pv (p :: nx) && Jbh p pv nx.head?) := by
 unfold Jbh
 have hlook : JcI (some p) nx = !(!p.1 && p.2.2 && p.2.1.isEmpty && Ja2 nx.head?) := by
  cases nx with
  | nil => simp [JcI, Ja2]
  | cons x xs => rfl
 rw [hlook]
 by_cases hp : p.1 = true
 ·rw [if_pos hp]
  have hpo : Q1 p pv.isNone = Jau p.2.1 := by unfold Q1; rw [if_pos hp]
  rw [hpo, hp]
  cases hpl : Jau p.2.1 with
  | false => simp
  | true =>
   have hne := Jiq hpl
   cases pv with
   | none => simp [Jcb, JcI]
   | some q =>
    have hq := hv q rfl
    simp only [Jcb, JmE, JcI, hp, hne]
    obtain ⟨a, b, c⟩ := q
    obtain ⟨d, e, f⟩ := p
    simp only at hq ⊢
    generalize b.isEmpty = be at hq ⊢
    cases a <;> cases be <;> cases c <;> cases f <;> simp_all
 ·have hpf : p.1 = false := by simpa using hp
  rw [if_neg hp, Jjp p _ hpf, hpf]
  generalize Q1 p pv.isNone = ok
  cases pv with
  | none =>
   simp only [Jcb, JcI, Jd3, Ja2]
   generalize p.2.1.isEmpty = pe
   generalize Ja2 nx.head? = qn
   generalize p.2.2 = pq
   cases ok <;> cases pe <;> cases qn <;> cases pq <;> rfl
  | some q =>
   have hq := hv q rfl
   simp only [Jcb, JmE, JcI, Jd3, Ja2, hpf]
   generalize p.2.1.isEmpty = pe
   generalize Ja2 nx.head? = qn
   generalize p.2.2 = pq
   generalize q.2.1.isEmpty = qe at hq ⊢
   generalize q.2.2 = qq
   generalize q.1 = qv at hq ⊢
   cases ok <;> cases pe <;> cases qn <;> cases pq <;> cases qe <;> cases qq <;> cases qv <;> simp_all
theorem JmG : ∀ (l : List Pk) (pv : Option Pk), (∀ q, pv = some q → q.1 = true → q.2.1.isEmpty = false) → JcL pv l = (JcI pv l && Je4 pv l)
 | [], pv, _ => by cases pv <;> simp [JcL, Je4, JcI]
 | p :: r, pv, hv => by
  have hs := JnJ p pv r hv
  rw [JcL, Je4]
  by_cases hok : Q1 p pv.isNone = true
  ·have ih := JmG r (some p) (fun q hq hqv => by
    simp only [Option.some.injEq] at hq
    subst hq
    unfold Q1 at hok
    rw [if_pos hqv] at hok
    exact Jiq hok)
   rw [ih]
   generalize Je4 (some p) r = c at ih ⊢
   generalize JcI (some p) r = lk at hs ih ⊢
   rw [← Bool.and_assoc, hs, Bool.and_assoc]
  ·have hf : Q1 p pv.isNone = false := by simpa using hok
   rw [hf] at hs ⊢
   simp only [Bool.false_and] at hs ⊢
   rw [← Bool.and_assoc, ← hs]
   rfl
theorem JnK (l : List Pk) : JbV l = (!l.isEmpty && Je4 none l) := by
 unfold JbV
 rw [JmG l none (fun q h => by cases h)]
 cases l <;> simp [JcI]
end Go.Sy
namespace Go.Vm
open Go Go.Proofs Go.Sy
set_option maxRecDepth 100000
attribute [local simp] Oks J8 Jj Jo vop Js Jy ev evs toV andThen inBlock Jn Fr.dsTo Fr.glTo Fr.toNone Jk Jl Jm J6 Jc Jz Jw V.undef JU J9 Qk
theorem Jir (l : List Wp) : Jbb (Jaa l) = l.length * 6 + 1 := by
 induction l with
 | nil => rfl
 | cons a l ih =>
  have e : Jaa (a :: l) = .bool a.v :: .str a.t :: .bool a.q :: Jaa l := rfl
  rw [e]
  simp only [Jbb, vsz, ih, List.length_cons]
  omega
theorem Vp.small {st : St} {x : V} {l : List Wp} (h : Vp st x l) (hl : l.length < 1000000) : vsz x < 1000000000 := by
 cases h with
 | nils => simp [vsz]
 | sl l ex => simp only [vsz, Jir]; omega
 | ms => simp [vsz]
def Wv (st : St) (w : V) (l : List Wp) : Prop := ∃ x a, w = .agg [x, .int .i64 a] ∧ Vp st x l
theorem Wv.keep {st st' : St} (hk : Keep st st') {w : V} {l : List Wp} (h : Wv st w l) : Wv st' w l := by
 obtain ⟨x, a, rfl, hv⟩ := h
 exact ⟨x, a, rfl, hv.keep hk⟩
theorem wf0 (id : Nat) : JD Tryz.prog 41 (.ptr id 0) 0 = some (.ptr id 0) := by kernel_rfl
theorem wf1 (id : Nat) : JD Tryz.prog 41 (.ptr id 0) 1 = some (.ptr id 1) := by kernel_rfl
theorem JgL {kk : Bool} {a b : Bool} : Je Tryz.prog kk .eql 4 (.bool a) (.bool b) = some (.bool (a == b)) := by
 simp only [Je, QJ, Jc, ofV]
 have h3 : QI Tryz.prog (Op.equal 4 (.bool a) (.bool b)) = some (a == b) := by
  unfold Op.equal
  exact JnI (d := 9999) Tryz.underlying4
 have h4 : QI Tryz.prog (do eqGuard .eql 4 (opK kk) (.tmp 0) (.bool a) (.bool b); binOp .eql 4 (.bool a) (.bool b)) = some (.bool (a == b)) := by
  simp only [Q4, eqGuard, binOp, h3]
  simp [Jdy]
 show (match QI Tryz.prog (do eqGuard .eql 4 (opK kk) (.tmp 0) (.bool a) (.bool b); binOp .eql 4 (.bool a) (.bool b)) with
  | some v => toV 6 v
  | none => none) = _
 rw [h4]
 rfl
theorem Jkk (l : List Wp) {i : Nat} (hi : i < l.length) : (l.map Wp.key)[i]? = some (l.getD i default).key := by
 rw [List.getElem?_map, List.getD_eq_getElem?_getD, List.getElem?_eq_getElem hi]; rfl
variable [Memo] [NY]
end Go.Vm
namespace Go.Vm
open Go Go.Proofs Go.Sy
set_option maxRecDepth 100000
attribute [local simp] Oks J8 Jj Jo vop Js Jy ev evs toV andThen inBlock Jn Fr.dsTo Fr.glTo Fr.toNone Jk Jl Jm J6 Jc Jz Jw V.undef JU J9 Qk
theorem JmH [Memo] {P : Program} {ops : Array Oper} (a : List Oper) : ∀ (b : List Oper) (fr : Fr) (st : St), J8 P (ihCall (W P)) none ops (a ++ b) fr st =
  match J8 P (ihCall (W P)) none ops a fr st with
  | .ok fr1 st1 => J8 P (ihCall (W P)) none ops b fr1 st1
  | r => r := by
 induction a with
 | nil => intro b fr st; rfl
 | cons o r ih =>
  intro b fr st
  simp only [List.cons_append, J8]
  cases Jj ops fr o with
  | false => exact ih ..
  | true =>
   cases Jo o.op with
   | false =>
    cases vop P (ihCall (W P)) fr st o.op with
    | val v st' => exact ih ..
    | panic v st' => rfl
    | fail w => rfl
   | true =>
    generalize Jcx P fr o.op = d
    cases d with
    | none => rfl
    | some d => exact ih ..
theorem Oks.cut [Memo] {P : Program} {ops : Array Oper} {l : List Oper} {fr : Fr} {st : St} {Q : Fr → St → Prop} (n : Nat) (R : Fr → St → Prop) (h : Oks P ops (l.take n) fr st R)
  (k : ∀ fr' st', R fr' st' → Oks P ops (l.drop n) fr' st' Q) : Oks P ops l fr st Q := by
 unfold Oks at h ⊢
 rw [← List.take_append_drop n l, JmH]
 cases hx : J8 P (ihCall (W P)) none ops (l.take n) fr st with
 | ok fr1 st1 => rw [hx] at h; exact k fr1 st1 h
 | panic v fr1 st1 => rw [hx] at h; exact h.elim
 | fail w => rw [hx] at h; exact h.elim
theorem JQ : Q7 Tryz.prog 43 = some (.agg [.bool false, .str ⟨0, 0⟩, .bool false]) := by kernel_rfl
def Q2 (st : St) (p : Wp) : St := { ctr := st.ctr + 1, box := (st.box.put st.ctr (.cells [.bool false, .str ⟨0, 0⟩, .bool false] 43 true (some 0))).put st.ctr (.cells [.bool p.v, .str p.t, .bool p.q] 43 true (some 0)) }
theorem Q3 (st : St) (p : Wp) : Keep st (Q2 st p) := Keep.put (id := st.ctr) ((Keep.refl st).new _) (Nat.le_refl _) _
theorem Jai (st : St) (p : Wp) : (Q2 st p).box.get st.ctr = some (.cells [.bool p.v, .str p.t, .bool p.q] 43 true (some 0)) := by
 unfold Q2; rw [Tr.get_put, if_pos rfl]
theorem JaE (st : St) (p : Wp) : st.ctr < (Q2 st p).ctr := Nat.lt_succ_self _
theorem QS (st : St) (p : Wp) : JaN Tryz.prog { ctr := st.ctr + 1, box := st.box.put st.ctr (.cells [.bool false, .str ⟨0, 0⟩, .bool false] 43 true (some 0)) } 43 (.ptr st.ctr 0) (.agg [.bool p.v, .str p.t, .bool p.q]) = some (Q2 st p) :=
 QK z33 (by show (st.box.put st.ctr _).get st.ctr = _; rw [Tr.get_put, if_pos rfl]) rfl rfl rfl
theorem QZ {st : St} {id : Nat} {p : Wp} (hb : st.box.get id = some (.cells [.bool p.v, .str p.t, .bool p.q] 43 true (some 0))) :
  JB Tryz.prog st 4 (.ptr id 0) = some (.bool p.v) ∧ JB Tryz.prog st 9 (.ptr id 1) = some (.str p.t) ∧ JB Tryz.prog st 4 (.ptr id 2) = some (.bool p.q) :=
 ⟨Jf sa4 sz4 hb rfl, Jf sa9 sz9 hb rfl, Jf sa4 sz4 hb rfl⟩
theorem Jbi (s : S) : s.same (S.ofList []) = s.toList.isEmpty := by
 rw [S.same_eq, S.toList_ofList]
 cases s.toList <;> rfl
def Jak (ks : List Pk) : Nat → Option Pk
 | 0 => none
 | i + 1 => ks[i]?
theorem JnL {ks : List Pk} {i : Nat} {p : Pk} (h : ks[i]? = some p) : JcL (Jak ks i) (ks.drop i) = (Q1 p (decide (i = 0)) && !Jcb (Jak ks i) p && JcL (Jak ks (i + 1)) (ks.drop (i + 1))) := by
 have hi : i < ks.length := (List.getElem?_eq_some_iff.1 h).1
 have hd : ks.drop i = p :: ks.drop (i + 1) := by
  rw [List.drop_eq_getElem_cons hi]
  rw [List.getElem?_eq_getElem hi] at h
  rw [Option.some.inj h]
 rw [hd, JcL]
 have hn : (Jak ks i).isNone = decide (i = 0) := by
  cases i with
  | zero => rfl
  | succ i =>
   have : i < ks.length := by omega
   simp [Jak, this]
 rw [hn, show Jak ks (i + 1) = some p from h]
variable [Memo] [NY]
def OkQ (gl : Gl) (x : V) (ks : List Pk) (p : Wp) (i id1 id4 : Nat) (st2 : St) (e : AE) (fr' : Fr) (st' : St) : Prop :=
 e = AE.normal ∧ Keep st2 st' ∧ fr'.ds = [] ∧ fr'.gl = gl ∧ Fr.at fr' 1 = .ptr id1 0 ∧ Fr.at fr' 3 = .int .i64 (i : Int) ∧ Fr.at fr' 4 = .ptr id4 0 ∧ Fr.at fr' 8 = x ∧ Fr.at fr' 9 = .int .i64 (ks.length : Int) ∧ Fr.at fr' 10 = .int .i64 (i : Int) ∧ Fr.at fr' 5 = .bool (Q1 p.key (decide (i = 0)))
set_option maxHeartbeats 4000000 in
theorem Jho (gl : Gl) {aL : List V} (hh : Hits gl aL) (st : St) (w : V) (l : List Wp) (hx : Wv st w l) (hl : l.length < 1000000) (hs : ∀ p ∈ l, p.t.n < 4000000000000000000) :
  ∃ v st', W Tryz.prog (.call gl 81 [w]) st = .call (.val v st') ∧ v = .bool (JbV (l.map Wp.key)) ∧ Keep st st' := by
 obtain ⟨x, a, rfl, hx⟩ := hx
 have hk29 : Jg Tryz.prog 86 = true := by kernel_rfl
 have hk37 : Jg Tryz.prog 102 = true := by kernel_rfl
 have hk38 : Jg Tryz.prog 103 = true := by kernel_rfl
 have ox := hx.one
 have oi : ∀ k n, Ju (.int k n) = true := fun _ _ => rfl
 have lx := hx.len
 refine J3 (NY.no _ rfl rfl rfl _ _) Tryz.func81 rfl (by kernel_rfl) ?_
 repeat refine Does.seq ?_
 refine Does.region ?_
 simp [Jv, V.cells, ox, oi, JM]
 have hk1 : Keep st { ctr := st.ctr + 1, box := st.box.put st.ctr (.cells [x, .int .i64 a] 41 true (some 0)) } := (Keep.refl st).new _
 have b1 : ({ ctr := st.ctr + 1, box := st.box.put st.ctr (.cells [x, .int .i64 a] 41 true (some 0)) } : St).box.get st.ctr = some (.cells [x, .int .i64 a] 41 true (some 0)) := by
  rw [Tr.get_put, if_pos rfl]
 have hct : st.ctr < ({ ctr := st.ctr + 1, box := st.box.put st.ctr (.cells [x, .int .i64 a] 41 true (some 0)) } : St).ctr := Nat.lt_succ_self _
 revert hk1 b1 hct
 generalize ({ ctr := st.ctr + 1, box := st.box.put st.ctr (.cells [x, .int .i64 a] 41 true (some 0)) } : St) = st1
 generalize hid1 : st.ctr = id1
 intro hk1 b1 hct
 have f1 := wf0 id1
 have hx1 := hx.keep hk1
 have hks : (l.map Wp.key).length = l.length := by simp
 have hkey : ∀ i, i < l.length → (l.map Wp.key)[i]? = some (l.getD i default).key := fun i hi => Jkk l hi
 have hmay : JbV (l.map Wp.key) = (!decide (l.length = 0) && JcL none (l.map Wp.key)) := by
  unfold JbV
  congr 1
  cases l <;> simp
 have l1 := Jf (P := Tryz.prog) (off := 0) Jcn Jca b1 rfl
 generalize hK : l.map Wp.key = ks at hks hkey hmay
 rw [hmay]
 generalize hD : decide (l.length = 0) = D
 generalize hC : JcL none ks = C
 repeat refine Does.seq ?_
 refine Does.region ?_
 simp [f1, l1, lx]
 refine Does.mono (Q := fun e fr' st' => Keep st1 st' ∧ fr'.ds = [] ∧ ((e = AE.ret ∧ Fr.at fr' 2 = .bool false ∧ C = false) ∨ (e = AE.normal ∧ Fr.at fr' 1 = .ptr id1 0 ∧ C = true))) ?loop ?tail
 case tail =>
  rintro e fr' st' ⟨hk, hds, ⟨rfl, h2, hc⟩ | ⟨rfl, h1, hc⟩⟩
  ·simp only [andThen]
   simp [hds, h2, hc, hk1.trans hk]
  ·simp only [andThen]
   repeat refine Does.seq ?_
   refine Does.region ?_
   have l1' := Jf (P := Tryz.prog) (off := 0) Jcn Jca (show st'.box.get id1 = _ by rw [hk.box _ hct]; exact b1) rfl
   have e0 : ∀ kk, Je Tryz.prog kk .gtr 3 (.int .i64 (l.length : Int)) (.int .i64 0) = some (.bool (decide (0 < l.length))) := fun kk => Jbd rfl
   have hd : decide (0 < l.length) = !D := by
    rw [← hD]
    by_cases h : l.length = 0
    ·simp [h]
    ·have : 0 < l.length := by omega
     simp [h, this]
   rw [hd] at e0
   simp [h1, f1, l1', lx, e0]
   refine Does.ret ?_
   simp [hds, hc, hk1.trans hk]
 case loop =>
  refine Does.block (Does.up l.length (fun i fr st' => Keep st1 st' ∧ fr.ds = [] ∧ fr.gl = gl ∧ Fr.at fr 1 = .ptr id1 0 ∧ Fr.at fr 8 = x ∧ Fr.at fr 9 = .int .i64 (l.length : Int) ∧ Fr.at fr 10 = .int .i64 (i : Int) ∧ i ≤ l.length ∧ JcL (Jak ks i) (ks.drop i) = C) 0 ?init ?JH ?step)
  case init => exact ⟨.refl st1, by simp, by simp, by simp, by simp, by simp, by simp, Nat.zero_le _, hC⟩
  case JH => exact fun i fr st' h => h.2.2.2.2.2.2.2.1
  case step =>
   rintro i fr st' ⟨hk, hds, hg, h1, h8, h9, h10, hi, hchk⟩
   have elen : ∀ kk, Je Tryz.prog kk .lss 3 (.int .i64 (i : Int)) (.int .i64 (l.length : Int)) = some (.bool (decide (i < l.length))) := fun kk => QN rfl
   repeat refine Does.seq ?_
   refine Does.region ?_
   by_cases hlt : i < l.length
   rotate_left
   ·rw [decide_eq_false hlt] at elen
    simp [h9, h10, elen]
    repeat refine Does.seq ?_
    refine Does.condF (by simp) ?_
    refine Does.exit ?_
    simp only [inBlock, if_true, andThen]
    rw [List.drop_eq_nil_of_le (by omega)] at hchk
    simp only [JcL] at hchk
    exact ⟨hk, by simp [hds], .inr ⟨trivial, by simp [h1], hchk.symm⟩⟩
   ·rw [decide_eq_true hlt] at elen
    obtain ⟨p, g1, g2⟩ := (hx1.keep hk).get hlt
    have gk := hkey i hlt
    have hsz : (l.getD i default).t.n < 4000000000000000000 := hs _ (by rw [List.getD_eq_getElem?_getD, List.getElem?_eq_getElem hlt]; exact List.getElem_mem hlt)
    generalize l.getD i default = ex at g2 gk hsz
    have n1 := g2.loads.1
    have i1 := g1 .i64
    simp only [Wp.cells] at n1
    have hns := QS st' ex
    have z33' := JQ
    rw [JnL gk] at hchk
    have w1 : IntKind.i64.wrap ((i : Int) + 1) = (i : Int) + 1 := Jp (by omega) (by omega)
    simp [h9, h10, elen]
    repeat refine Does.seq ?_
    refine Does.condT (by simp) ?_
    refine Does.skip ?_
    simp
    repeat refine Does.seq ?_
    refine Does.block ?_
    repeat refine Does.seq ?_
    refine Does.region ?_
    have o33 : ([.bool false, .str ⟨0, 0⟩, .bool false] : List V).all Ju = true := rfl
    simp [h8, h10, i1, n1, Jv, z33', V.cells, Ju, JM, Qe, hns]
    have nk := Q3 st' ex
    have nb := Jai st' ex
    have nc := JaE st' ex
    revert nk nb nc
    generalize Q2 st' ex = st2
    generalize hid4 : st'.ctr = id4
    intro nk nb nc
    repeat refine Does.seq ?_
    refine Does.region ?_
    simp
    repeat refine Does.seq ?_
    obtain ⟨pl0, pl1, pl2⟩ := QZ nb
    have t0 := pg0 id4 0
    have t1 := pg1 id4 0
    have t2 := pg2 id4 0
    simp only [Nat.zero_add] at t1 t2
    refine Does.mono (Q := OkQ gl x ks ex i id1 id4 st2) ?okb ?okt
    case okb => as_aux_lemma =>
     refine Does.block ?_
     repeat refine Does.seq ?_
     refine Does.region ?_
     simp [t0, pl0]
     repeat refine Does.seq ?_
     cases hv : ex.v with
     | true =>
      have hpo : Q1 ex.key (decide (i = 0)) = Jau ex.t.toList := by simp [Q1, Wp.key, hv]
      have hc := Jh (Jmx gl st2 ex.t hsz)
      rw [← hpo] at hc
      refine Does.condT (by simp) ?_
      refine Does.region ?_
      simp [t1, pl1, hg, Ja hk29, hc]
      exact ⟨rfl, .refl _, by simp [hds], by simp [hg], by simp [h1], by simp, by simp, by simp [h8], by simp [h9, hks], by simp [h10], by simp⟩
     | false =>
      refine Does.condF (by simp) ?_
      repeat refine Does.seq ?_
      refine Does.region ?_
      simp [t2, pl2]
      repeat refine Does.seq ?_
      cases hq : ex.q with
      | true =>
       have hpo : Q1 ex.key (decide (i = 0)) = !ex.t.toList.elem 0 := by simp [Q1, Wp.key, hv, hq]
       have hc := Jh (JdO gl st2 ex.t (S.ofList [0]) rfl)
       have h00 : ((S.ofList [0]).at 0).toUInt8 = 0 := by decide
       rw [h00] at hc
       generalize ex.t.toList.elem 0 = el at hc hpo
       refine Does.condT (by simp) ?_
       refine Does.region ?_
       simp [t1, pl1, hg, Ja hk37, hc]
       exact ⟨rfl, .refl _, by simp [hds], by simp [hg], by simp [h1], by simp, by simp, by simp [h8], by simp [h9, hks], by simp [h10], by rw [hpo]; simp⟩
      | false =>
       have hpo : Q1 ex.key (decide (i = 0)) = JcN ex.t.toList (decide (i = 0)) := by simp [Q1, Wp.key, hv, hq]
       obtain ⟨v, st3, hc, rfl, hk3⟩ := JmD gl hh st2 ex.t (decide (i = 0)) hsz
       have hc := Jh hc
       rw [← hpo] at hc
       have ei : ∀ kk, Je Tryz.prog kk .eql 3 (.int .i64 (i : Int)) (.int .i64 0) = some (.bool (decide (i = 0))) := fun kk => JE rfl
       generalize hpb : Q1 ex.key (decide (i = 0)) = pb at hc
       generalize hfi : decide (i = 0) = fi at hc ei
       refine Does.condF (by simp) ?_
       refine Does.region ?_
       simp [t1, pl1, hg, ei, Ja hk38, hc]
       exact ⟨rfl, hk3, by simp [hds], by simp [hg], by simp [h1], by simp, by simp, by simp [h8], by simp [h9, hks], by simp [h10], by rw [hpb]; simp⟩
    case okt => as_aux_lemma =>
     clear hds hg h1 h8 h9 h10
     rintro e fr' st3 ⟨rfl, hk3, hds, hg, h1, h3, h4, h8, h9, h10, h5⟩
     simp only [andThen]
     repeat refine Does.seq ?_
     refine Does.region ?_
     have hkk : Keep st1 st3 := (hk.trans nk).trans hk3
     have nb3 : st3.box.get id4 = some (.cells [.bool ex.v, .str ex.t, .bool ex.q] 43 true (some 0)) := by rw [hk3.box _ nc]; exact nb
     generalize hpb : Q1 ex.key (decide (i = 0)) = pb at h5 hchk
     have ei : ∀ kk, Je Tryz.prog kk .eql 3 (.int .i64 (i : Int)) (.int .i64 0) = some (.bool (decide (i = 0))) := fun kk => JE rfl
     cases pb with
     | false =>
      simp [h5]
      repeat refine Does.seq ?_
      refine Does.condT (by simp) ?_
      repeat refine Does.seq ?_
      refine Does.region ?_
      simp
      refine Does.ret ?_
      simp only [andThen, inBlock]
      exact ⟨hkk, by simp [hds], .inl ⟨trivial, by simp, by rw [← hchk]; rfl⟩⟩
     | true =>
      simp [h5]
      repeat refine Does.seq ?_
      refine Does.condF (by simp) ?_
      refine Does.skip ?_
      simp
      repeat refine Does.seq ?_
      refine Does.region ?_
      rw [Bool.true_and] at hchk
      cases i with
      | zero =>
       simp at ei
       simp [h3]
       repeat refine Does.seq ?_
       refine Does.condT (by simp) ?_
       refine Does.exit ?_
       simp
       refine Does.region ?_
       simp at h10 w1
       simp [h10, Jq, w1]
       refine ⟨1, by omega, hkk, hds, hg, h1, h8, by rw [h9, hks], by simp, by omega, ?_⟩
       simpa [Jcb, Jak] using hchk
      | succ j =>
       have eif : ∀ kk, Je Tryz.prog kk .eql 3 (.int .i64 ((j + 1 : Nat) : Int)) (.int .i64 0) = some (.bool false) := fun kk => by rw [ei, decide_eq_false (by omega)]
       simp only [Int.natCast_add, Int.cast_ofNat_Int] at eif
       simp at h3
       have eif' : ∀ kk, Je Tryz.prog kk .eql 3 (.int .i64 ((j : Int) + 1)) (.int .i64 0) = some (.bool false) := eif
       simp [h3, eif']
       repeat refine Does.seq ?_
       refine Does.condF (by simp) ?_
       refine Does.skip ?_
       simp
       repeat refine Does.seq ?_
       refine Does.region ?_
       have l1' := Jf (P := Tryz.prog) (off := 0) Jcn Jca (show st3.box.get id1 = _ by rw [hkk.box _ hct]; exact b1) rfl
       have wj : IntKind.i64.wrap (j : Int) = (j : Int) := Jp (by omega) (by omega)
       obtain ⟨pa, g3, g4⟩ := (hx1.keep hkk).get (show j < l.length by omega)
       have gj := hkey j (by omega)
       generalize l.getD j default = pr at g4 gj
       have n2 := g4.loads.1
       have i2 := g3 .i64
       simp only [Wp.cells] at n2
       have hns2 := QS st3 pr
       simp at h10
       refine Oks.cont (Q := fun fr st' => st' = Q2 st3 pr ∧ fr.ds = [] ∧ fr.gl = gl ∧ Fr.at fr 1 = .ptr id1 0 ∧ Fr.at fr 4 = .ptr id4 0 ∧ Fr.at fr 6 = .ptr st3.ctr 0 ∧ Fr.at fr 8 = x ∧ Fr.at fr 9 = .int .i64 (ks.length : Int) ∧ Fr.at fr 10 = .int .i64 ((j : Int) + 1)) ?r13 ?rest
       case r13 =>
        simp [h1, h3, f1, l1', JI, wj, i2, n2, Jv, z33', V.cells, Ju, JM, Qe, hns2, hds, hg, h4, h8, h9, h10]
       case rest =>
       clear hds hg h1 h3 h4 h8 h9 h10 h5
       rintro fr st4' ⟨hst4, hds, hg, h1, h4, h6, h8, h9, h10⟩
       rw [hst4]
       clear hst4
       simp only [andThen]
       have nk2 := Q3 st3 pr
       have nb2 := Jai st3 pr
       revert nk2 nb2
       generalize Q2 st3 pr = st4
       have hlt4 : id4 < st3.ctr := Nat.lt_of_lt_of_le nc hk3.ctr
       generalize st3.ctr = id6 at hlt4 h6
       intro nk2 nb2
       have hk4 : Keep st1 st4 := hkk.trans nk2
       have nb4 : st4.box.get id4 = some (.cells [.bool ex.v, .str ex.t, .bool ex.q] 43 true (some 0)) := by
        rw [nk2.box _ (Nat.lt_of_lt_of_le nc hk3.ctr)]; exact nb3
       repeat refine Does.seq ?_
       refine Does.region ?_
       obtain ⟨r0, r1, r2⟩ := QZ nb4
       obtain ⟨s0, s1, s2⟩ := QZ nb2
       have u0 := pg0 id6 0
       have u1 := pg1 id6 0
       have u2 := pg2 id6 0
       simp only [Nat.zero_add] at u1 u2
       have hcl : Jcb (Jak ks (j + 1)) ex.key = ((ex.q == pr.q) && ((!ex.v && !pr.v) || (ex.q && (ex.t.toList.isEmpty || pr.t.toList.isEmpty)))) := by
        show Jcb (ks[j]?) ex.key = _
        rw [gj]; rfl
       have eb : ∀ kk, Je Tryz.prog kk .eql 4 (.bool ex.q) (.bool pr.q) = some (.bool (ex.q == pr.q)) := fun kk => JgL
       have et1 := Jbi ex.t
       have et2 := Jbi pr.t
       rw [hcl] at hchk
       generalize (ex.q == pr.q) = b0 at eb hchk
       generalize ex.t.toList.isEmpty = b1' at et1 hchk
       generalize pr.t.toList.isEmpty = b2' at et2 hchk
       have fin : (b0 && ((!ex.v && !pr.v) || (ex.q && (b1' || b2')))) = false → JcL (Jak ks (j + 2)) (ks.drop (j + 2)) = C := fun hf => by
        rw [hf] at hchk
        simpa using hchk
       have bad : (b0 && ((!ex.v && !pr.v) || (ex.q && (b1' || b2')))) = true → C = false := fun hf => by rw [← hchk, hf]; rfl
       generalize ex.v = v1 at r0 fin bad
       generalize ex.q = q1 at r2 fin bad eb
       generalize pr.v = v2 at s0 fin bad
       generalize pr.q = q2 at s2 eb
       clear hchk hcl
       simp at w1
       generalize hr : ((!v1 && !v2) || (q1 && (b1' || b2'))) = r at fin bad
       generalize hu : (!v1 && !v2) = u at hr
       refine Oks.cont (Q := fun fr st' => st' = st4 ∧ Fr.at fr 71 = .bool (b0 && r) ∧ fr.ds = [] ∧ fr.gl = gl ∧ Fr.at fr 1 = .ptr id1 0 ∧ Fr.at fr 4 = .ptr id4 0 ∧ Fr.at fr 6 = .ptr id6 0 ∧ Fr.at fr 8 = x ∧ Fr.at fr 9 = .int .i64 (ks.length : Int) ∧ Fr.at fr 10 = .int .i64 ((j : Int) + 1)) ?cmp ?rest2
       case cmp => as_aux_lemma =>
        refine Oks.cut 6 (fun fr st' => st' = st4 ∧ Fr.at fr 48 = .bool b0 ∧ fr.ds = [] ∧ fr.gl = gl ∧ Fr.at fr 1 = .ptr id1 0 ∧ Fr.at fr 4 = .ptr id4 0 ∧ Fr.at fr 6 = .ptr id6 0 ∧ Fr.at fr 8 = x ∧ Fr.at fr 9 = .int .i64 (ks.length : Int) ∧ Fr.at fr 10 = .int .i64 ((j : Int) + 1)) ?c1 ?c2
        case c1 =>
         simp only [List.take]
         simp [hds, hg, h1, h4, h6, h8, h9, h10, t2, r2, u2, s2, eb]
        case c2 => as_aux_lemma =>
        clear hds hg h1 h4 h6 h8 h9 h10
        rintro fr st' ⟨hst', h48, hds, hg, h1, h4, h6, h8, h9, h10⟩
        rw [hst']
        clear hst'
        refine Oks.cut 9 (fun fr st' => st' = st4 ∧ Fr.at fr 48 = .bool b0 ∧ Fr.at fr 57 = (if b0 = true then .bool u else .tup []) ∧ fr.ds = [] ∧ fr.gl = gl ∧ Fr.at fr 1 = .ptr id1 0 ∧ Fr.at fr 4 = .ptr id4 0 ∧ Fr.at fr 6 = .ptr id6 0 ∧ Fr.at fr 8 = x ∧ Fr.at fr 9 = .int .i64 (ks.length : Int) ∧ Fr.at fr 10 = .int .i64 ((j : Int) + 1)) ?c3 ?c4
        case c3 => as_aux_lemma =>
         cases b0 <;> cases v1 <;> cases v2 <;> simp at hu <;> subst hu <;> simp [h48, hds, hg, h1, h4, h6, h8, h9, h10, t0, r0, u0, s0]
        case c4 => as_aux_lemma =>
        clear hds hg h1 h4 h6 h8 h9 h10 h48
        rintro fr st' ⟨hst', h48, h57, hds, hg, h1, h4, h6, h8, h9, h10⟩
        rw [hst']
        clear hst'
        cases b0 with
        | false =>
         simp only [Bool.false_eq_true, if_false] at h57
         simp [h48, h57, hds, hg, h1, h4, h6, h8, h9, h10]
        | true =>
         simp only [if_true] at h57
         cases u with
         | true =>
          simp at hr
          simp [h48, h57, hds, hg, h1, h4, h6, h8, h9, h10, hr]
         | false =>
          simp at hr
          cases q1 <;> cases b1' <;> cases b2' <;> simp at hr <;> subst hr <;> simp [h48, h57, hds, hg, h1, h4, h6, h8, h9, h10, t1, t2, r1, r2, u1, s1, Ji, et1, et2]
       case rest2 => as_aux_lemma =>
       clear hds hg h1 h4 h6 h8 h9 h10
       rintro fr st' ⟨hst', h71, hds, hg, h1, h4, h6, h8, h9, h10⟩
       rw [hst']
       clear hst'
       simp only [andThen]
       generalize hz : (b0 && r) = z at h71 fin bad
       cases z with
       | false =>
        refine Does.condF (by simp [h71]) ?_
        refine Does.skip ?_
        simp
        refine Does.region ?_
        simp [h10, Jq, w1]
        exact ⟨j + 2, by omega, hk4, hds, hg, h1, h8, by rw [h9, hks], by omega, by omega, fin rfl⟩
       | true =>
        refine Does.condT (by simp [h71]) ?_
        repeat refine Does.seq ?_
        refine Does.region ?_
        simp
        refine Does.ret ?_
        simp only [andThen, inBlock]
        exact ⟨hk4, by simp [hds], .inl ⟨trivial, by simp, bad rfl⟩⟩
end Go.Vm
