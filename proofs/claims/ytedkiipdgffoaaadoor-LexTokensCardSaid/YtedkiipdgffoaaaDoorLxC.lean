/- Words: where a quote ends, where a word ends, by the program and by the document. -/
import Derived.Test.YtedkiipdgffoaaaDoorLxB
namespace Go.Vm
open Go Go.Proofs Go.Lx
attribute [local simp] Oks xOps vwanted isDefer vop kindOf vpure ev evs toV andThen inBlock atTo_some Fr.dsTo Fr.glTo Fr.toNone initFr_at initFr_ds initFr_gl veff traverse tupled vresult V.undef evOpt xDraw xStep

theorem Keep.tick {a b : St} (h : Keep a b) (n : Nat) : Keep a { b with ctr := b.ctr + n } := ⟨Nat.le_trans h.ctr (Nat.le_add_right ..), h.box⟩

theorem wrap1 {i : Nat} (h : i < 2000000) : IntKind.i64.wrap ((i : Int) + 1) = ((i + 1 : Nat) : Int) := by
  rw [wrap_i64 (by omega) (by omega)]; omega
theorem wrap2 {i : Nat} (h : i < 2000000) : IntKind.i64.wrap ((i : Int) + 2) = ((i + 2 : Nat) : Int) := by
  rw [wrap_i64 (by omega) (by omega)]; omega

variable [Memo] [NL]

theorem quoted_ok (gl : Gl) (st : St) (r : S) (q : UInt8) (tl : List UInt8) (hr : r.toList = q :: tl) (hn : r.n < 1000000) :
    ∃ v st', W Tryd.prog (.call gl 29 [.str r]) st = .call (.val v st') ∧ v = .int .i64 (opInt ((quoteL q tl).map (· + 1))) ∧ Keep st st' := by
  have hlen := vlen_str Tryd.underlying9 (s := r)
  have hn0 : 0 < r.n := by rw [← S.len, hr]; simp
  have hq : q = UInt8.ofNat (r.at 0) := by
    have := r.toList_at hn0
    rw [hr] at this
    simpa using this
  have h0i := vindex_str (P := Tryd.prog) (k := .i64) Tryd.underlying9 hn0
  simp only [Int.ofNat_zero, Int.natCast_zero, Int.cast_ofNat_Int] at h0i
  have ha0 := r.at_lt 0
  refine call_ex (NL.no _ rfl _ _) Tryd.func29 rfl (by kernel_rfl) ?_
  repeat refine Does.seq ?_
  refine Does.region ?_
  simp
  repeat refine Does.seq ?_
  refine Does.region ?_
  simp
  refine Does.mono (Q := fun e fr' st' => Keep st st' ∧ fr'.ds = [] ∧ ((e = AE.ret ∧ Fr.at fr' 2 = .int .i64 (opInt ((quoteL q tl).map (· + 1)))) ∨ (e = AE.normal ∧ quoteL q tl = none))) ?loop ?tail
  case tail =>
    rintro e fr' st' ⟨hk, hds, ⟨rfl, h2⟩ | ⟨rfl, hno⟩⟩
    · exact ⟨.inl rfl, hds, h2, hk⟩
    · simp
      repeat refine Does.seq ?_
      refine Does.region ?_
      simp
      refine Does.ret ?_
      simp [hds, hno, opInt, hk]
  case loop =>
    refine Does.block (Does.up (r.n + 1) (fun i fr st' => Keep st st' ∧ fr.ds = [] ∧ Fr.at fr 0 = .str r ∧ Fr.at fr 3 = .int .i64 (i : Int) ∧ i ≤ r.n + 1 ∧ 1 ≤ i ∧ ((i ≤ r.n ∧ (quoteL q (r.toList.drop i)).map (· + i) = (quoteL q tl).map (· + 1)) ∨ (i = r.n + 1 ∧ quoteL q tl = none))) 1 ?init ?bound ?step)
    case init => exact ⟨.refl st, by simp, by simp, by simp, by omega, Nat.le_refl _, .inl ⟨by omega, by rw [hr]; rfl⟩⟩
    case bound => exact fun i fr st' h => h.2.2.2.2.1
    case step =>
      rintro i fr st' ⟨hk, hds, h0, h3, hi, hi1, hinv⟩
      repeat refine Does.seq ?_
      refine Does.region ?_
      by_cases hlt : i < r.n
      · have hlt' : (i : Int) < (r.n : Int) := by omega
        obtain ⟨hle, hinv⟩ : i ≤ r.n ∧ (quoteL q (r.toList.drop i)).map (· + i) = (quoteL q tl).map (· + 1) := hinv.resolve_right (by omega)
        simp [h0, h3, hlen, vbin_lss, hlt']
        repeat refine Does.seq ?_
        refine Does.condT (by simp) ?_
        refine Does.skip ?_
        simp
        repeat refine Does.seq ?_
        refine Does.block ?_
        repeat refine Does.seq ?_
        refine Does.draw (b := [0, 0, 3, 0, 8, 31]) (l := [0, 1, 2, 3, 4, 5]) (by kernel_rfl) (by kernel_rfl) (by kernel_rfl) ?_
        have hix := vindex_str (P := Tryd.prog) (k := .i64) Tryd.underlying9 hlt
        have hai := r.at_lt i
        have hdr := r.drop_at hlt
        rw [hdr, quoteL] at hinv
        simp [h0, h3, hix, h0i, vbin_eql]
        repeat refine Does.seq ?_
        have hkt := hk.tick 6
        by_cases hq1 : r.at i = r.at 0
        · have hq1' : (r.at i : Int) = (r.at 0 : Int) := by omega
          rw [if_pos (by rw [hq, hq1])] at hinv
          refine Does.condT (by simp [hq1']) ?_
          repeat refine Does.seq ?_
          refine Does.region ?_
          simp [h3]
          refine Does.ret ?_
          simp [hds, ← hinv, opInt, hkt]
        · have hq1' : ¬ (r.at i : Int) = (r.at 0 : Int) := by omega
          rw [if_neg (by rw [hq, byte_eq hai ha0]; exact hq1)] at hinv
          refine Does.condF (by simp [hq1']) ?_
          refine Does.skip ?_
          simp
          repeat refine Does.seq ?_
          refine Does.region ?_
          by_cases hq2 : r.at 0 = 34
          · have hq2' : (r.at 0 : Int) = 34 := by omega
            have hqq : q = 34 := by rw [hq, hq2]; rfl
            by_cases hq3 : r.at i = 92
            · have hq3' : (r.at i : Int) = 92 := by omega
              rw [if_pos ⟨hqq, by rw [hq3]; rfl⟩] at hinv
              have w1 := wrap1 (i := i) (by omega)
              have w2 := wrap1 (i := i + 1) (by omega)
              simp at w1 w2
              simp [h0, h3, hix, h0i, vbin_eql, hq2', hq3']
              repeat refine Does.seq ?_
              refine Does.condT (by simp) ?_
              refine Does.region ?_
              simp [h3, vbin_add, w1]
              refine Does.region ?_
              simp [vbin_add, w2]
              refine ⟨i + 2, by omega, hkt, hds, h0, by simp; omega, by omega, by omega, ?_⟩
              by_cases hend : i + 1 = r.n
              · rw [if_pos (by rw [hend, List.drop_eq_nil_iff]; simp)] at hinv
                refine .inr ⟨by omega, ?_⟩
                cases h : quoteL q tl with
                | none => rfl
                | some m => rw [h] at hinv; simp at hinv
              · rw [if_neg (by rw [List.drop_eq_nil_iff]; simp; omega), List.drop_drop] at hinv
                refine .inl ⟨by omega, ?_⟩
                rw [← hinv, Option.map_map]
                congr 1
                funext x
                simp; omega
            · have hq3' : ¬ (r.at i : Int) = 92 := by omega
              rw [if_neg (by rintro ⟨_, h⟩; exact hq3 ((byte_eq hai (by decide)).1 h))] at hinv
              have w1 := wrap1 (i := i) (by omega)
              simp at w1
              simp [h0, h3, hix, h0i, vbin_eql, hq2', hq3']
              repeat refine Does.seq ?_
              refine Does.condF (by simp) ?_
              refine Does.skip ?_
              simp
              refine Does.region ?_
              simp [h3, vbin_add, w1]
              refine ⟨i + 1, by omega, hkt, hds, h0, by simp, by omega, by omega, .inl ⟨by omega, ?_⟩⟩
              rw [← hinv, Option.map_map]
              congr 1
              funext x
              simp; omega
          · have hq2' : ¬ (r.at 0 : Int) = 34 := by omega
            rw [if_neg (by rintro ⟨h, _⟩; rw [hq] at h; exact hq2 ((byte_eq ha0 (by decide)).1 h))] at hinv
            have w1 := wrap1 (i := i) (by omega)
            simp at w1
            simp [h0, h3, hix, h0i, vbin_eql, hq2']
            repeat refine Does.seq ?_
            refine Does.condF (by simp) ?_
            refine Does.skip ?_
            simp
            refine Does.region ?_
            simp [h3, vbin_add, w1]
            refine ⟨i + 1, by omega, hkt, hds, h0, by simp, by omega, by omega, .inl ⟨by omega, ?_⟩⟩
            rw [← hinv, Option.map_map]
            congr 1
            funext x
            simp; omega
      · have hlt' : ¬ (i : Int) < (r.n : Int) := by omega
        simp [h0, h3, hlen, vbin_lss, hlt']
        repeat refine Does.seq ?_
        refine Does.condF (by simp) ?_
        refine Does.exit ?_
        simp [hds, hk]
        rcases hinv with ⟨_, h⟩ | ⟨_, h⟩
        · rw [List.drop_eq_nil_of_le (by simp; omega)] at h
          cases hh : quoteL q tl with
          | none => rfl
          | some m => rw [hh] at h; simp [quoteL] at h
        · exact h
end Go.Vm
