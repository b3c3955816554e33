/- The cutter: blank, put, cut. -/
import Derived.Test.YtedkiipdgffoaaaDoorLxF
namespace Go.Vm
open Go Go.Proofs Go.Lx
attribute [local simp] Oks xOps vwanted isDefer vop kindOf vpure ev evs toV andThen inBlock atTo_some Fr.dsTo Fr.glTo Fr.toNone initFr_at initFr_ds initFr_gl veff traverse tupled vresult V.undef evOpt xDraw xStep

/-- all but one box stays -/
structure But (id : Nat) (st st' : St) : Prop where
  ctr : st.ctr ≤ st'.ctr
  box : ∀ i, i < st.ctr → i ≠ id → st'.box.get i = st.box.get i

theorem But.keep {id : Nat} {a b : St} (h : Keep a b) : But id a b := ⟨h.ctr, fun i hi _ => h.box i hi⟩
theorem But.refl (id : Nat) (st : St) : But id st st := ⟨Nat.le_refl _, fun _ _ _ => rfl⟩
theorem But.trans {id : Nat} {a b c : St} (h : But id a b) (k : But id b c) : But id a c := ⟨Nat.le_trans h.ctr k.ctr, fun i hi hn => (k.box i (Nat.lt_of_lt_of_le hi h.ctr) hn).trans (h.box i hi hn)⟩
theorem But.put {id : Nat} {a b : St} (h : But id a b) (x : Bx) : But id a { b with box := b.box.put id x } := ⟨h.ctr, fun i hi hn => by rw [Tr.get_put, if_neg (by omega)]; exact h.box i hi hn⟩
theorem Ot.but {lo id : Nat} {st st' : St} (h : But id st st') (hid : id < lo) {x : V} {l : List Tk} (hv : Ot lo st x l) : Ot lo st' x l := by
  cases hv with
  | nils => exact .nils
  | ms i cap fl l hb h1 h2 hc => exact .ms i cap fl l (by rw [h.box i h2 (by omega)]; exact hb) h1 (Nat.lt_of_lt_of_le h2 h.ctr) hc

/-- the place is set -/
theorem Cu.set {st : St} {id : Nat} {s : S} {a : Nat} {out : V} (h : Cu st id s a out) (b : Nat) : vstore Tryd.prog st 3 (.ptr id 1) (.int .i64 (b : Int)) = some { st with box := st.box.put id (.cells [.str s, .int .i64 (b : Int), out] 40 true (some 0)) } :=
  vstore_one z3 h (by show 1 < 3; decide) rfl
theorem Cu.at_put (st : St) (id : Nat) (s : S) (b : Nat) (out : V) : Cu { st with box := st.box.put id (.cells [.str s, .int .i64 (b : Int), out] 40 true (some 0)) } id s b out := by simp [Cu, Tr.get_put]

theorem veq_str (s : S) : veq 300 (.str s) (.str s) = true := by simp [veq]
theorem veq_int (k : IntKind) (n : Int) : veq 300 (.int k n) (.int k n) = true := by simp [veq]

theorem takeWhile_all {p : UInt8 → Bool} : ∀ {l : List UInt8}, (∀ x ∈ l, p x = true) → l.takeWhile p = l
  | [], _ => rfl
  | a :: l, h => by
    rw [List.takeWhile_cons_of_pos (h a (List.mem_cons_self ..)), takeWhile_all fun x hx => h x (List.mem_cons_of_mem _ hx)]

theorem eol_index (l : List UInt8) : (0 ≤ Lib.indexByte l 10 → Lib.indexByte l 10 = (eolL l : Int)) ∧ (Lib.indexByte l 10 < 0 → eolL l = l.length) := by
  rw [indexByte_eq]
  by_cases h : (10 : UInt8) ∈ l
  · rw [if_pos h]
    exact ⟨fun _ => rfl, fun h2 => by omega⟩
  · rw [if_neg h]
    refine ⟨fun h2 => by omega, fun _ => ?_⟩
    unfold eolL
    congr 1
    refine takeWhile_all fun b hb => ?_
    simp only [decide_eq_true_eq, ne_eq]
    intro h2
    subst h2
    exact h hb

/-- no gap stands there -/
def NoGap (b : UInt8) (r : List UInt8) : Prop := ¬ (b = 32 ∨ b = 9) ∧ ¬ [92, 10].isPrefixOf (b :: r) = true ∧ b ≠ 35
/-- what blank comes to -/
def BlankR (id : Nat) (s : S) (a : Nat) (out : V) (b : UInt8) (r : List UInt8) (st : St) (v : V) (st' : St) : Prop :=
  ∃ ok, v = .bool ok ∧ But id st st' ∧
    ((ok = true ∧ ∃ n, stepL b r = .gap n ∧ Cu st' id s (a + n) out) ∨ (ok = false ∧ Cu st' id s a out ∧ NoGap b r))

variable [Memo] [NL]

theorem blank_ok (gl : Gl) (st : St) (id : Nat) (s : S) (a : Nat) (out : V) (hc : Cu st id s a out) (hid : id < st.ctr) (ha : a < s.n) (hn : s.n < 1000000) (b : UInt8) (r : List UInt8) (hbr : s.toList.drop a = b :: r) :
    ∃ v st', W Tryd.prog (.call gl 21 [.ptr id 0]) st = .call (.val v st') ∧ BlankR id s a out b r st v st' := by
  have hk16 : callable Tryd.prog 16 = true := by kernel_rfl
  have hk25 : callable Tryd.prog 25 = true := by kernel_rfl
  have f0 := field0 id
  have f1 := field1 id
  have hsl := vslice_lo (P := Tryd.prog) (k := .i64) Tryd.underlying9 (s := s) (lo := a) (by omega)
  have hR : (s.cut a s.n).toList = b :: r := by rw [rest_toList s (by omega), hbr]
  have hRn : (s.cut a s.n).n = s.n - a := rfl
  generalize s.cut a s.n = R at hsl hR hRn
  have hR0 : 0 < R.n := by omega
  have hb : b = UInt8.ofNat (R.at 0) := by
    have := R.toList_at hR0
    rw [hR] at this
    simpa using this
  have hb0 := R.at_lt 0
  have hix := vindex_str (P := Tryd.prog) (k := .i64) Tryd.underlying9 hR0
  simp only [Int.ofNat_zero, Int.natCast_zero, Int.cast_ofNat_Int] at hix
  refine call_ex (NL.no _ rfl _ _) Tryd.func21 rfl (by kernel_rfl) ?_
  repeat refine Does.seq ?_
  refine Does.region ?_
  simp
  repeat refine Does.seq ?_
  refine Does.draw (b := [0, 1, 3, 7, 0, 16, 48, 112, 255, 511]) (l := [0, 1, 2, 3, 4, 5, 6, 7, 8, 9]) (by kernel_rfl) (by kernel_rfl) (by kernel_rfl) ?_
  have hkt := (Keep.refl st).tick 10
  have hct := hc.keep hkt hid
  have hbt : But id st { st with ctr := st.ctr + 10 } := .keep hkt
  have l0 := hct.l0
  have l1 := hct.l1
  simp [sameIn, f0, f1, l0, l1, veq_str, veq_int, hsl]
  clear l0 l1
  revert hct hbt
  generalize ({ ctr := st.ctr + 10, box := st.box } : St) = st1
  intro hct hbt
  have l0 := hct.l0
  have l1 := hct.l1
  repeat refine Does.seq ?_
  refine Does.mono (Q := fun e fr' st' => But id st st' ∧ fr'.ds = [] ∧ ((e = AE.normal ∧ ∃ n, stepL b r = .gap n ∧ Cu st' id s (a + n) out) ∨ (e = AE.ret ∧ Fr.at fr' 2 = .bool false ∧ Cu st' id s a out ∧ NoGap b r))) ?sw ?tail
  case tail =>
    rintro e fr' st' ⟨hbb, hds, ⟨rfl, n, hs, hcu⟩ | ⟨rfl, h2, hcu, h3⟩⟩
    · simp
      repeat refine Does.seq ?_
      refine Does.region ?_
      simp
      refine Does.ret ?_
      simp [hds]
      exact ⟨true, rfl, hbb, .inl ⟨rfl, n, hs, hcu⟩⟩
    · simp [hds, h2]
      exact ⟨false, rfl, hbb, .inr ⟨rfl, hcu, h3⟩⟩
  case sw =>
    refine Does.block ?_
    repeat refine Does.seq ?_
    refine Does.region ?_
    have go : ∀ n : Nat, a + n ≤ s.n → IntKind.i64.wrap ((a : Int) + (n : Int)) = ((a + n : Nat) : Int) := fun n h => wrap_add (by omega)
    by_cases hs1 : R.at 0 = 32 ∨ R.at 0 = 9
    · have hsb : b = 32 ∨ b = 9 := by
        rw [hb]
        rcases hs1 with h | h <;> rw [h]
        · exact .inl rfl
        · exact .inr rfl
      have w1 := go 1 (by omega)
      have hset := hct.set (a + 1)
      simp at w1 hset
      have hstep : stepL b r = .gap 1 := by simp [stepL, hsb]
      rcases hs1 with h | h
      all_goals
        have h' : (R.at 0 : Int) = _ := congrArg _ h
        simp [hix, vbin_eql, h']
        repeat refine Does.seq ?_
        refine Does.condT (by simp) ?_
        refine Does.region ?_
        simp [f1, l1, vbin_add, w1, vact, hset]
        exact ⟨by simpa using hbt.put _, 1, hstep, by simpa using Cu.at_put st1 id s (a + 1) out⟩
    · have hsb : ¬ (b = 32 ∨ b = 9) := by
        rw [hb]
        rintro (h | h)
        · exact hs1 (.inl ((byte_eq hb0 (by decide)).1 h))
        · exact hs1 (.inr ((byte_eq hb0 (by decide)).1 h))
      have g1 : ¬ (R.at 0 : Int) = 32 := by omega
      have g2 : ¬ (R.at 0 : Int) = 9 := by omega
      simp [hix, vbin_eql, g1, g2]
      repeat refine Does.seq ?_
      refine Does.condF (by simp) ?_
      repeat refine Does.seq ?_
      refine Does.region ?_
      have hpre := ihCall_W (strings_prefix gl st1 R (S.ofList [92, 10]))
      rw [hR, S.toList_ofList] at hpre
      generalize hp : [92, 10].isPrefixOf (b :: r) = p at hpre
      simp [vcall_callable hk25, hpre]
      repeat refine Does.seq ?_
      cases p with
      | true =>
        have hlen := (List.isPrefixOf_iff_prefix.1 hp).length_le
        have hrl : (b :: r).length = s.n - a := by rw [← hR, S.len, hRn]
        rw [hrl] at hlen
        simp at hlen
        have w2 := go 2 (by omega)
        have hset := hct.set (a + 2)
        simp at w2 hset
        have hstep : stepL b r = .gap 2 := by rw [stepL, if_neg hsb, if_pos hp]
        refine Does.condT (by simp) ?_
        refine Does.region ?_
        simp [f1, l1, vbin_add, w2, vact, hset]
        exact ⟨by simpa using hbt.put _, 2, hstep, by simpa using Cu.at_put st1 id s (a + 2) out⟩
      | false =>
        have hp' : ¬ [92, 10].isPrefixOf (b :: r) = true := by rw [hp]; simp
        refine Does.condF (by simp) ?_
        repeat refine Does.seq ?_
        refine Does.region ?_
        by_cases hs3 : R.at 0 = 35
        · have hs3' : (R.at 0 : Int) = 35 := by omega
          have hb35 : b = 35 := by rw [hb, hs3]; rfl
          have hstep : stepL b r = .gap (eolL (b :: r)) := by rw [stepL, if_neg hsb, if_neg hp', if_pos hb35]
          have hel := eolL_le (b :: r)
          have hrl : (b :: r).length = s.n - a := by rw [← hR, S.len, hRn]
          obtain ⟨e1, e2⟩ := eol_index (b :: r)
          have hidx := ihCall_W (strings_index gl st1 R 10)
          rw [hR] at hidx
          have h10 : (10 : Nat).toUInt8 = 10 := rfl
          rw [h10] at hidx
          simp only [Int.cast_ofNat_Int] at hidx
          generalize Lib.indexByte (b :: r) 10 = w at hidx e1 e2
          simp [hix, vbin_eql, hs3']
          repeat refine Does.seq ?_
          refine Does.condT (by simp) ?_
          repeat refine Does.seq ?_
          refine Does.region ?_
          simp [vcall_callable hk16, hidx]
          repeat refine Does.seq ?_
          refine Does.region ?_
          simp [vbin_geq]
          repeat refine Does.seq ?_
          by_cases hw : 0 ≤ w
          · have hw2 := e1 hw
            subst hw2
            have w2 := go (eolL (b :: r)) (by omega)
            have hset := hct.set (a + eolL (b :: r))
            simp at w2 hset
            refine Does.condT (by simp) ?_
            refine Does.region ?_
            simp [f1, l1, vbin_add, w2, vact, hset]
            exact ⟨by simpa using hbt.put _, _, hstep, by simpa using Cu.at_put st1 id s (a + eolL (b :: r)) out⟩
          · have hw2 := e2 (by omega)
            have hset := hct.set s.n
            refine Does.condF (by simp [hw]) ?_
            refine Does.region ?_
            have hls := vlen_str Tryd.underlying9 (s := s)
            simp [f0, f1, l0, hls, vact, hset]
            refine ⟨hbt.put _, _, hstep, ?_⟩
            rw [hw2, hrl, show a + (s.n - a) = s.n by omega]
            exact Cu.at_put st1 id s s.n out
        · have hs3' : ¬ (R.at 0 : Int) = 35 := by omega
          have hb35 : ¬ b = 35 := by rw [hb]; exact fun h => hs3 ((byte_eq hb0 (by decide)).1 h)
          simp [hix, vbin_eql, hs3']
          repeat refine Does.seq ?_
          refine Does.condF (by simp) ?_
          repeat refine Does.seq ?_
          refine Does.region ?_
          simp
          refine Does.ret ?_
          exact ⟨hbt, by simp, .inr ⟨rfl, by simp, hct, ⟨hsb, hp', hb35⟩⟩⟩
end Go.Vm
