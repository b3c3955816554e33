/- Contracts of the small functions of opts and of touchstoneref11, by the evaluator's equations. Conditions: lengths are below 2^40. -/
import Derived.Test.YtajfpccgknoafaaVmWv
import Derived.Test.YtajfpccgknoafaaChecked
namespace Go.Vm
open Go Go.Proofs
attribute [local simp] Oks xOps vwanted isDefer vop kindOf vpure ev evs toV andThen inBlock atTo_some Fr.dsTo Fr.glTo Fr.toNone initFr_at initFr_ds initFr_gl veff traverse tupled vresult V.undef

/-- nothing is known ahead, but of works -/
class NR [Memo] : Prop where
  no : ∀ f, Nat.beq f 6 = false → ∀ a st, (Memo.look f).run a st = none

/-! ## strings -/
theorem S.drop_at (s : S) {i : Nat} (h : i < s.n) : s.toList.drop i = UInt8.ofNat (s.at i) :: s.toList.drop (i + 1) := by
  have h1 := S.toList_at s h
  have hl : i < s.toList.length := by rw [S.len]; exact h
  rw [List.drop_eq_getElem_cons hl]
  rw [List.getElem?_eq_getElem hl] at h1
  rw [Option.some.inj h1]
theorem byte_eq {a b : Nat} (ha : a < 256) (hb : b < 256) : UInt8.ofNat a = UInt8.ofNat b ↔ a = b := by
  constructor
  · intro h
    have := congrArg UInt8.toNat h
    simp at this
    omega
  · intro h; rw [h]

theorem stringslite_index [Memo] [NR] (gl : Gl) (st : St) (s : S) (c : Nat) :
    W Try.prog (.call gl 19 [.str s, .int .u8 (c : Int)]) st = .call (.val (.int .i64 (Lib.indexByte s.toList c.toUInt8)) st) := by
  have hx : vextern Try.prog Try.f20 [.str s, .int .u8 (c : Int)] = some (.int .i64 (Lib.indexByte s.toList c.toUInt8)) := vextern_index (by kernel_rfl) (by kernel_rfl) s c
  have hb : Try.f20.body = none := rfl
  have hm : (Try.f20.name == "runtime.NumGoroutine") = false := by kernel_rfl
  refine call_does (NR.no _ rfl _ _) Try.func19 rfl (by kernel_rfl) ?_
  repeat refine Does.seq ?_
  refine Does.region ?_
  simp
  repeat refine Does.seq ?_
  refine Does.region ?_
  simp [vcall_extern Try.func20 hm hb hx]
  refine Does.ret ?_
  simp

theorem strings_index [Memo] [NR] (gl : Gl) (st : St) (s : S) (c : Nat) :
    W Try.prog (.call gl 15 [.str s, .int .u8 (c : Int)]) st = .call (.val (.int .i64 (Lib.indexByte s.toList c.toUInt8)) st) := by
  have hc := ihCall_W (stringslite_index gl st s c)
  have hk : callable Try.prog 19 = true := by kernel_rfl
  refine call_does (NR.no _ rfl _ _) Try.func15 rfl (by kernel_rfl) ?_
  repeat refine Does.seq ?_
  refine Does.region ?_
  simp
  repeat refine Does.seq ?_
  refine Does.region ?_
  simp [vcall_callable hk, hc]
  refine Does.ret ?_
  simp

theorem index_mem (l : List UInt8) (c : UInt8) : Lib.indexByte l c < 0 ↔ c ∉ l := by
  induction l with
  | nil => simp [Lib.indexByte]
  | cons b l ih =>
    have hge := Lib.indexByte_ge l c
    simp only [Lib.indexByte, List.mem_cons, not_or]
    by_cases hb : b = c
    · subst hb; simp
    · have hb' : (b == c) = false := by simpa using hb
      simp only [hb', Bool.false_eq_true, if_false]
      by_cases hm : c ∈ l
      · have h1 : ¬ Lib.indexByte l c < 0 := fun h => ih.1 h hm
        have h2 : (Lib.indexByte l c == -1) = false := by simp; omega
        simp only [h2, Bool.false_eq_true, if_false, hm, not_true_eq_false, and_false, iff_false]
        omega
      · have h1 : Lib.indexByte l c < 0 := ih.2 hm
        have h2 : (Lib.indexByte l c == -1) = true := by simp; omega
        simp only [h2, if_true, hm, not_false_eq_true, and_true]
        constructor
        · intro _ h; exact hb h.symm
        · intro _; decide

theorem has_ok [Memo] [NR] (gl : Gl) (st : St) (s : S) (c : Nat) (hn : s.n < 1099511627776) (hc : c < 256) :
    W Try.prog (.call gl 18 [.str s, .int .u8 (c : Int)]) st = .call (.val (.bool (decide (UInt8.ofNat c ∈ s.toList))) st) := by
  have hlen := vlen_str Try.underlying9 (s := s)
  refine call_does (NR.no _ rfl _ _) Try.func18 rfl (by kernel_rfl) ?_
  repeat refine Does.seq ?_
  refine Does.region ?_
  simp
  repeat refine Does.seq ?_
  refine Does.region ?_
  simp
  refine Does.block (Does.inv (fun k fr st' => st' = st ∧ fr.ds = [] ∧ k ≤ s.n ∧ Fr.at fr 0 = .str s ∧ Fr.at fr 1 = .int .u8 (c : Int) ∧ Fr.at fr 5 = .int .i64 ((s.n - k : Nat) : Int) ∧ (UInt8.ofNat c ∈ s.toList ↔ UInt8.ofNat c ∈ s.toList.drop (s.n - k))) s.n ?init ?step)
  case init => simp
  case step =>
    rintro k fr st' ⟨rfl, hds, hk, h0, h1, h5, hm⟩
    repeat refine Does.seq ?_
    refine Does.region ?_
    simp [h0, h5, hlen, vbin_lss]
    refine Does.cond (c := decide (s.n - k < s.n)) (by simp) (fun hc' => ?_) (fun hc' => ?_)
    · have hc' : s.n - k < s.n := of_decide_eq_true hc'
      have hix := vindex_str (k := .i64) Try.underlying9 (s := s) hc'
      have hat := S.at_lt s (s.n - k)
      have hdr := S.drop_at s hc'
      refine Does.skip ?_
      simp
      repeat refine Does.seq ?_
      refine Does.block ?_
      repeat refine Does.seq ?_
      refine Does.region ?_
      simp [h0, h1, h5, hix, vbin_eql]
      refine Does.cond (c := decide (((s.at (s.n - k) : Nat) : Int) = (c : Int))) (by simp) (fun he => ?_) (fun he => ?_)
      · have he : s.at (s.n - k) = c := by have := of_decide_eq_true he; omega
        repeat refine Does.seq ?_
        refine Does.region ?_
        simp
        refine Does.ret ?_
        have : UInt8.ofNat c ∈ s.toList := hm.2 (by rw [hdr, he]; exact List.mem_cons_self ..)
        simp [hds, this]
      · have he : s.at (s.n - k) ≠ c := fun h => by rw [h] at he; simp at he
        refine Does.skip ?_
        simp
        refine Does.region ?_
        simp [h5, vbin_add]
        refine ⟨k - 1, by omega, hds, by omega, h0, h1, ?_, ?_⟩
        · rw [show (1 : Int) = ((1 : Nat) : Int) from rfl, wrap_add (by omega)]
          congr 1; omega
        · rw [hm, hdr, show s.n - (k - 1) = s.n - k + 1 by omega, List.mem_cons]
          have : UInt8.ofNat c ≠ UInt8.ofNat (s.at (s.n - k)) := fun h => he ((byte_eq hc hat).1 h).symm
          simp [this]
    · have hc' : ¬ s.n - k < s.n := of_decide_eq_false hc'
      refine Does.exit ?_
      simp
      repeat refine Does.seq ?_
      refine Does.region ?_
      simp
      refine Does.ret ?_
      have h2 : s.n - k = s.n := by omega
      rw [h2, List.drop_of_length_le (by rw [S.len]; exact Nat.le_refl _)] at hm
      simp [hds]
      exact fun h => by simpa using hm.1 h

/-- is it a letter? -/
def isLetter (c : Nat) : Bool := (decide (97 ≤ c) && decide (c ≤ 122)) || (decide (65 ≤ c) && decide (c ≤ 90))

theorem letter_ok [Memo] [NR] (gl : Gl) (st : St) (c : Nat) : W Try.prog (.call gl 14 [.int .u8 (c : Int)]) st = .call (.val (.bool (isLetter c)) st) := by
  refine call_does (NR.no _ rfl _ _) Try.func14 rfl (by kernel_rfl) ?_
  repeat refine Does.seq ?_
  refine Does.region ?_
  simp
  repeat refine Does.seq ?_
  refine Does.region ?_
  have e1 : (decide ((c : Int) ≥ 97)) = decide (97 ≤ c) := by simp only [ge_iff_le]; congr 1; simp; omega
  have e2 : (decide ((c : Int) ≤ 122)) = decide (c ≤ 122) := by congr 1; simp; omega
  have e3 : (decide ((c : Int) ≥ 65)) = decide (65 ≤ c) := by simp only [ge_iff_le]; congr 1; simp; omega
  have e4 : (decide ((c : Int) ≤ 90)) = decide (c ≤ 90) := by congr 1; simp; omega
  unfold isLetter
  cases h1 : decide (97 ≤ c) <;> cases h2 : decide (c ≤ 122) <;> cases h3 : decide (65 ≤ c) <;> cases h4 : decide (c ≤ 90) <;>
    (simp [vbin_geq, vbin_leq, e1, e2, e3, e4, h1, h2, h3, h4]
     refine Does.ret ?_
     simp)
/-! ## rows of words -/
theorem u22 : Try.prog.underlying 22 = some (.slice 9) := Try.underlying22
theorem z9 : sizeT Try.prog 9 = some 1 := by kernel_rfl
theorem a9 : isAggT Try.prog 9 = some false := by kernel_rfl
theorem i9 : Try.prog.info? 9 = some Try.t9 := by kernel_rfl
theorem zv9 : zeroT Try.prog 9 = some (.str ⟨0, 0⟩) := by kernel_rfl

/-- touchstonelaw11.large -/
theorem large_ok [Memo] [NR] (gl : Gl) (st : St) (x : V) (l : List S) (hx : Vw st x l) (hl : l.length ≤ 9223372036854775807) :
    ∃ b, W Try.prog (.call gl 7 [x]) st = .call (.val (.bool b) st) ∧ (b = false → l.length < 5000 ∧ ∀ s ∈ l, s.n < 5000) := by
  have hlen := hx.len u22
  suffices h : ∃ v st', W Try.prog (.call gl 7 [x]) st = .call (.val v st') ∧ ∃ b, v = .bool b ∧ st' = st ∧ (b = false → l.length < 5000 ∧ ∀ s ∈ l, s.n < 5000) by
    obtain ⟨v, st', h1, b, rfl, rfl, h2⟩ := h
    exact ⟨b, h1, h2⟩
  refine call_ex (NR.no _ rfl _ _) Try.func7 rfl (by kernel_rfl) ?_
  refine Does.seq (Does.region ?_)
  simp
  refine Does.seq (Does.region ?_)
  simp
  refine Does.seq (Does.mono (Q := fun e fr' st' => e = AE.normal ∧ st' = st ∧ fr'.ds = [] ∧ ∃ a : Nat, a < 10001 ∧ Fr.at fr' 3 = .int .i64 (a : Int) ∧ (a < 5000 → l.length < 5000 ∧ ∀ s ∈ l, s.n < 5000)) ?loop ?tail)
  case tail =>
    rintro e fr' st' ⟨rfl, rfl, hds, a, ha, h3, hp⟩
    have eb : decide ((a : Int) ≥ 5000) = decide (5000 ≤ a) := by simp only [ge_iff_le]; congr 1; simp; omega
    simp
    repeat refine Does.seq ?_
    refine Does.region ?_
    simp [h3, vbin_geq, eb]
    refine Does.ret ?_
    simp [hds]
    by_cases h : a < 5000
    · exact .inl ⟨h, hp h⟩
    · exact .inr (by omega)
  case loop =>
  refine Does.seq (Does.region ?_)
  simp
  refine Does.block (Does.inv (fun k fr st' => st' = st ∧ fr.ds = [] ∧ k ≤ l.length ∧ Fr.at fr 0 = x ∧ Fr.at fr 4 = .int .i64 ((l.length - k : Nat) : Int) ∧ ∃ a : Nat, a < 10001 ∧ Fr.at fr 3 = .int .i64 (a : Int) ∧
    (a < 5000 → l.length - k ≤ a ∧ ∀ j, j < l.length - k → (l.getD j ⟨0, 0⟩).n < 5000)) l.length ?init ?step)
  case init => exact ⟨rfl, rfl, Nat.le_refl _, by simp, by simp, 0, by omega, by simp, fun _ => ⟨by simp, fun j hj => by simp at hj⟩⟩
  case step =>
    rintro k fr st' ⟨rfl, hds, hk, h0, h4, a, ha, h3, hp⟩
    have ea : decide ((a : Int) < 5000) = decide (a < 5000) := by congr 1; simp; omega
    have fin : (a < 5000 → l.length ≤ l.length - k) → a < 5000 → l.length < 5000 ∧ ∀ s ∈ l, s.n < 5000 := by
      intro hend hlt
      obtain ⟨p1, p2⟩ := hp hlt
      have := hend hlt
      refine ⟨by omega, fun s hs => ?_⟩
      obtain ⟨j, hj, rfl⟩ := List.getElem_of_mem hs
      have := p2 j (by omega)
      simpa [List.getD_eq_getElem?_getD, hj] using this
    repeat refine Does.seq ?_
    refine Does.region ?_
    cases hc1 : decide (l.length - k < l.length)
    · have hc : ¬ l.length - k < l.length := of_decide_eq_false hc1
      simp [h0, h4, hlen, vbin_lss, hc1]
      refine Does.condF (by simp) ?_
      refine Does.exit ?_
      simp
      exact ⟨hds, a, ha, h3, fin (fun _ => by omega)⟩
    · have hc : l.length - k < l.length := of_decide_eq_true hc1
      cases hc2 : decide (a < 5000)
      · have hc' : ¬ a < 5000 := of_decide_eq_false hc2
        simp [h0, h3, h4, hlen, vbin_lss, hc1, ea, hc2]
        refine Does.condF (by simp) ?_
        refine Does.exit ?_
        simp
        exact ⟨hds, a, ha, h3, fin (fun h => absurd h hc')⟩
      · have hc' : a < 5000 := of_decide_eq_true hc2
        simp [h0, h3, h4, hlen, vbin_lss, hc1, ea, hc2]
        refine Does.condT (by simp) ?_
        refine Does.skip ?_
        simp
        repeat refine Does.seq ?_
        refine Does.block ?_
        refine Does.region ?_
        obtain ⟨p, g1, g2⟩ := hx.get u22 z9 a9 hc (k := .i64)
        have hln := vlen_str Try.underlying9 (s := l.getD (l.length - k) ⟨0, 0⟩)
        generalize hsn : l.getD (l.length - k) ⟨0, 0⟩ = s at g2 hln
        have hmn : viaSem Try.prog (fun l => Builtin.min_ #[] 0 l.toArray) [.int .i64 (s.n : Int), .int .i64 5000] = some (.int .i64 ((min s.n 5000 : Nat) : Int)) := vmin s.n 5000
        have w1 : IntKind.i64.wrap ((a : Int) + 1) = ((a + 1 : Nat) : Int) := by rw [wrap_i64 (by omega) (by omega)]; omega
        have w2 : IntKind.i64.wrap (((a + 1 : Nat) : Int) + ((min s.n 5000 : Nat) : Int)) = ((a + 1 + min s.n 5000 : Nat) : Int) := wrap_add (by omega)
        have w3 : IntKind.i64.wrap (((l.length - k : Nat) : Int) + 1) = ((l.length - k + 1 : Nat) : Int) := by rw [wrap_i64 (by omega) (by omega)]; omega
        simp [h0, h3, h4, vbin_add, g1, g2, hln, hmn, w1, w2]
        refine Does.region ?_
        simp [h4, vbin_add, w3]
        refine ⟨k - 1, by omega, hds, by omega, h0, ?_, a + 1 + min s.n 5000, by omega, ?_, ?_⟩
        · omega
        · rw [wrap_i64 (by omega) (by omega)]; omega
        · intro hlt
          obtain ⟨p1, p2⟩ := hp hc'
          refine ⟨by omega, fun j hj => ?_⟩
          by_cases hjk : j = l.length - k
          · subst hjk
            have : (l[l.length - k]?.getD ⟨0, 0⟩) = s := by rw [← hsn, List.getD_eq_getElem?_getD]
            rw [this]; omega
          · have := p2 j (by omega)
            rwa [List.getD_eq_getElem?_getD] at this
theorem veq_str (s : S) : veq 300 (.str s) (.str s) = true := by
  show (Nat.beq s.n s.n && Nat.beq s.x s.x) = true
  simp

/-- touchstoneref06.Under, of two rows that are the same -/
theorem under_ok [Memo] [NR] (gl : Gl) (st : St) (x y : V) (l m : List S) (hx : Vw st x l) (hy : Vw st y m) (hl : l.length < 4611686018427387904) (hm : l.map S.toList = m.map S.toList) :
    ∃ v st', W Try.prog (.call gl 17 [x, y]) st = .call (.val v st') ∧ v = .bool true ∧ Keep st st' := by
  have hlm : l.length = m.length := by simpa using congrArg List.length hm
  have hx0 := hx.len u22
  have hy0 := hy.len u22
  refine call_ex (NR.no _ rfl _ _) Try.func17 rfl (by kernel_rfl) ?_
  refine Does.seq (Does.region ?_)
  simp
  refine Does.seq (Does.seq (Does.region ?_))
  simp [hx0, hy0, vbin_gtr, hlm]
  refine Does.condF (by simp) ?_
  refine Does.skip ?_
  simp
  refine Does.seq (Does.mono (Q := fun e fr' st' => e = AE.normal ∧ fr'.ds = [] ∧ Keep st st') ?loop ?tail)
  case tail =>
    rintro e fr' st' ⟨rfl, hds, hk⟩
    simp
    refine Does.seq (Does.region ?_)
    simp
    refine Does.ret ?_
    simp [hds, hk]
  case loop =>
  refine Does.seq (Does.region ?_)
  simp
  refine Does.block (Does.inv (fun k fr st' => Keep st st' ∧ fr.ds = [] ∧ k ≤ l.length ∧ Fr.at fr 0 = x ∧ Fr.at fr 1 = y ∧ Fr.at fr 5 = .int .i64 ((l.length - k : Nat) : Int)) l.length ?init ?step)
  case init => exact ⟨.refl _, by simp, Nat.le_refl _, by simp, by simp, by simp⟩
  case step =>
    rintro k fr st' ⟨hk', hds, hk, h0, h1, h5⟩
    have hx' := hx.keep hk'
    have hy' := hy.keep hk'
    refine Does.seq (Does.seq (Does.region ?_))
    simp [h0, h5, hx0, vbin_lss]
    refine Does.cond (c := decide (l.length - k < l.length)) (by simp) (fun hc => ?_) (fun hc => ?_)
    · have hc : l.length - k < l.length := of_decide_eq_true hc
      have hc2 : l.length - k < m.length := by omega
      refine Does.skip ?_
      simp
      have hkn := hk'.new (.cells [] 0 true none)
      refine Does.seq (Does.block (Does.seq ?_))
      refine Does.draw (b := [0, 0, 3, 7, 0, 0, 48, 112, 255]) (l := [0, 1, 2, 3, 4, 5, 6, 7, 8]) (by kernel_rfl) (by kernel_rfl) (by kernel_rfl) ?_
      have hk9 : Keep st { st' with ctr := st'.ctr + 9 } := ⟨by have := hk'.ctr; show st.ctr ≤ st'.ctr + 9; omega, hk'.box⟩
      obtain ⟨p, g1, g2⟩ := (hx.keep hk9).get u22 z9 a9 hc (k := .i64)
      obtain ⟨q, g3, g4⟩ := (hy.keep hk9).get u22 z9 a9 hc2 (k := .i64)
      have hse : (l.getD (l.length - k) ⟨0, 0⟩).same (m.getD (l.length - k) ⟨0, 0⟩) = true := by
        rw [S.same_eq]
        have h := congrArg (fun z => z[l.length - k]?) hm
        simp only [List.getElem?_map, List.getElem?_eq_getElem hc, List.getElem?_eq_getElem hc2, Option.map_some, Option.some.injEq] at h
        simp [List.getD_eq_getElem?_getD, hc, hc2, h]
      generalize l.getD (l.length - k) ⟨0, 0⟩ = s at g2 hse
      generalize m.getD (l.length - k) ⟨0, 0⟩ = t at g4 hse
      simp [xDraw, xStep, sameIn, h0, h1, h5, g1, g2, g3, g4, veq_str, vbin_sneq, hse]
      refine Does.condF (by simp) ?_
      refine Does.skip ?_
      simp
      refine Does.region ?_
      simp [h5, vbin_add]
      refine ⟨k - 1, by omega, hk9, hds, by omega, h0, h1, ?_⟩
      rw [wrap_i64 (by omega) (by omega)]
      omega
    · refine Does.exit ?_
      simp [hds, hk']

theorem same_ok [Memo] [NR] (gl : Gl) (st : St) (x y : V) (l m : List S) (hx : Vw st x l) (hy : Vw st y m) (hl : l.length < 4611686018427387904) (hm : l.map S.toList = m.map S.toList) :
    ∃ v st', W Try.prog (.call gl 9 [x, y]) st = .call (.val v st') ∧ v = .bool true ∧ Keep st st' := by
  have hlm : l.length = m.length := by simpa using congrArg List.length hm
  have hx0 := hx.len u22
  have hy0 := hy.len u22
  obtain ⟨v, st1, hc, rfl, hk⟩ := under_ok gl st x y l m hx hy hl hm
  have hc := ihCall_W hc
  have hk17 : callable Try.prog 17 = true := by kernel_rfl
  refine call_ex (NR.no _ rfl _ _) Try.func9 rfl (by kernel_rfl) ?_
  refine Does.seq (Does.region ?_)
  simp
  refine Does.seq (Does.region ?_)
  simp [hx0, hy0, vbin_eql, hlm, vcall_callable hk17, hc]
  refine Does.ret ?_
  simp [hk]

/-- Opts.Has -/
theorem opts_has_ok [Memo] [NR] (gl : Gl) (st : St) (s : S) (w : V) (hw : oneC w = true) (c : Nat) :
    ∃ v st', W Try.prog (.call gl 10 [.agg [.str s, w], .int .u8 (c : Int)]) st = .call (.val v st') ∧ v = .bool (decide (UInt8.ofNat c ∈ s.toList)) ∧ Keep st st' := by
  have hk15 : callable Try.prog 15 = true := by kernel_rfl
  have hf0 : ∀ id, vfieldAddr Try.prog 26 (.ptr id 0) 0 = some (.ptr id 0) := fun id => by
    have h1 := Try.underlying26
    simp only [vfieldAddr, h1]
    rfl
  refine call_ex (NR.no _ rfl _ _) Try.func10 rfl (by kernel_rfl) ?_
  refine Does.seq (Does.region ?_)
  have hos : oneC (.str s) = true := rfl
  simp [valloc, mkRef, V.cells, hos, hw]
  have hb : ({ ctr := st.ctr + 1, box := st.box.put st.ctr (Bx.cells [V.str s, w] 26 true (some 0)) } : St).box.get st.ctr = some (.cells [V.str s, w] 26 true (some 0)) := by simp [Tr.get_put]
  have hl0 := vload_of (P := Try.prog) (off := 0) a9 z9 hb rfl
  have hca := ihCall_W (strings_index gl { ctr := st.ctr + 1, box := st.box.put st.ctr (Bx.cells [V.str s, w] 26 true (some 0)) } s c)
  refine Does.seq (Does.region ?_)
  simp [hf0, hl0, vcall_callable hk15, hca, vbin_geq]
  refine Does.ret ?_
  simp
  refine ⟨?_, (Keep.refl st).new _⟩
  have := index_mem s.toList c.toUInt8
  by_cases hm : UInt8.ofNat c ∈ s.toList
  · have h1 : ¬ Lib.indexByte s.toList c.toUInt8 < 0 := fun h => this.1 h hm
    simp [hm]
    exact Int.not_lt.1 h1
  · have h1 : Lib.indexByte s.toList c.toUInt8 < 0 := this.2 hm
    simp [hm]
    exact h1
theorem nil_nil (kk : Bool) : vbin Try.prog kk .eql 22 .nils .nils = some (.bool true) := by
  cases kk <;> kernel_rfl

/-- slices.Clone -/
theorem clone_ok [Memo] [NR] (gl : Gl) (st : St) (x : V) (l : List S) (hx : Vw st x l) (hl : l.length < 1000000) :
    ∃ v st', W Try.prog (.call gl 16 [x]) st = .call (.val v st') ∧ Vw st' v l ∧ Keep st st' ∧ (v = .nils ∨ ∃ id n cap, v = .ms id 0 n 1 cap ∧ st.ctr ≤ id) := by
  by_cases hnn : x = .nils
  · subst hnn
    have hl0 : l = [] := by cases hx; rfl
    subst hl0
    have h0 := nil_nil
    refine call_ex (NR.no _ rfl _ _) Try.func16 rfl (by kernel_rfl) ?_
    refine Does.seq (Does.region ?_)
    simp
    refine Does.seq (Does.seq (Does.region ?_))
    simp [h0]
    refine Does.condT (by simp) ?_
    refine Does.seq (Does.region ?_)
    simp
    refine Does.ret ?_
    simp
    exact ⟨.nils, .refl _⟩
  · have hnil : ∀ kk, vbin Try.prog kk .eql 22 x .nils = some (.bool false) := fun kk => by
      cases hx with
      | nils => exact absurd rfl hnn
      | sl l ex => simp [vbin, u22]
      | ms => simp [vbin, u22]
    suffices h : ∃ v st', W Try.prog (.call gl 16 [x]) st = .call (.val v st') ∧ Vw st' v l ∧ Keep st st' ∧ ∃ id n cap, v = .ms id 0 n 1 cap ∧ st.ctr ≤ id by
      obtain ⟨v, st', h1, h2, h3, h4⟩ := h
      exact ⟨v, st', h1, h2, h3, .inr h4⟩
    refine call_ex (NR.no _ rfl _ _) Try.func16 rfl (by kernel_rfl) ?_
    refine Does.seq (Does.region ?_)
    simp
    refine Does.seq (Does.seq (Does.region ?_))
    simp [hnil]
    refine Does.condF (by simp) ?_
    refine Does.skip ?_
    simp
    refine Does.seq (Does.region ?_)
    have hbs : vbuildSlice Try.prog 22 0 [] = some ([], 9, 1) := by kernel_rfl
    let st1 : St := { ctr := st.ctr + 1, box := st.box.put st.ctr (.cells [] 9 true (some 0)) }
    have hk1 : Keep st st1 := (Keep.refl st).new _
    obtain ⟨y, st2, ha, hk2, hv, hy⟩ := Vw.copy u22 i9 rfl zv9 rfl (hx.keep hk1) (by show l.length * 16 ≤ maxBytes; simp [maxBytes]; omega) (by simp [maxBytes]; omega) (id := st.ctr) (e0 := 9) (fl := true) (by show st.ctr < st.ctr + 1; omega) (by simp [st1, Tr.get_put])
    have hu : Try.prog.underlying 22 = some (.slice 9) := u22
    simp [valloc, mkRef, evParts, hbs, vact, hu]
    simp only [st1] at ha
    simp [ha]
    refine Does.ret ?_
    simp
    refine ⟨hv, hk1.trans hk2, ?_⟩
    rcases hy with ⟨_, rfl, _⟩ | ⟨_, rfl, _⟩
    · exact ⟨_, ⟨_, _, rfl⟩, Nat.le_refl _⟩
    · exact ⟨_, ⟨_, _, rfl⟩, Nat.le_succ _⟩

end Go.Vm
