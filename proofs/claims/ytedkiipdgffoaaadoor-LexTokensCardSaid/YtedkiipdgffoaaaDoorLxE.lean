/- Words: where a word ends, by the document. -/
import Derived.Test.YtedkiipdgffoaaaDoorLxD
namespace Go.Vm
open Go Go.Proofs Go.Lx
attribute [local simp] Oks xOps vwanted isDefer vop kindOf vpure ev evs toV andThen inBlock atTo_some Fr.dsTo Fr.glTo Fr.toNone initFr_at initFr_ds initFr_gl veff traverse tupled vresult V.undef evOpt xDraw xStep

theorem opTx_nil (r : List UInt8) : opTx r = [] ↔ opIx r = none := by
  cases h : opIx r with
  | none => simp [opTx, h]
  | some i =>
    obtain ⟨_, _, _, h1, _⟩ := opIx_len h
    constructor
    · intro h2; rw [h2] at h1; simp at h1
    · intro h2; cases h2

theorem same_nil (o : S) : o.same (S.ofList []) = decide (o.toList = []) := by
  rw [S.same_eq, S.toList_ofList]
  rw [Bool.eq_iff_iff]; simp

variable [Memo] [NL]

set_option maxHeartbeats 1000000 in
theorem refword_ok (gl : Gl) (st : St) (s : S) (a : Nat) (ha : a ≤ s.n) (hn : s.n < 1000000) :
    ∃ v st', W Tryd.prog (.call gl 19 [.str s, .int .i64 (a : Int)]) st = .call (.val v st') ∧ v = .tup [.int .i64 ((a + (wordL (s.toList.drop a)).1 : Nat) : Int), .int .i64 (if (wordL (s.toList.drop a)).2 = true then -1 else ((a + (wordL (s.toList.drop a)).1 : Nat) : Int))] ∧ Keep st st' := by
  have hk18 : callable Tryd.prog 18 = true := by kernel_rfl
  have hlen := vlen_str Tryd.underlying9 (s := s)
  refine call_ex (NL.no _ rfl _ _) Tryd.func19 rfl (by kernel_rfl) ?_
  repeat refine Does.seq ?_
  refine Does.region ?_
  simp
  repeat refine Does.seq ?_
  refine Does.region ?_
  simp
  generalize hE0 : a + (wordL (s.toList.drop a)).1 = E
  generalize hok0 : (wordL (s.toList.drop a)).2 = ok
  repeat refine Does.seq ?_
  refine Does.mono (Q := fun e fr' st' => Keep st st' ∧ fr'.ds = [] ∧ ((e = AE.ret ∧ Fr.at fr' 4 = .int .i64 (E : Int) ∧ Fr.at fr' 5 = .int .i64 (if ok = true then -1 else (E : Int))) ∨ (e = AE.normal ∧ Fr.at fr' 6 = .int .i64 (E : Int) ∧ ok = true))) ?loop ?tail
  case tail =>
    have hE1 : (a : Int) + ((wordL (s.toList.drop a)).1 : Int) = (E : Int) := by omega
    rintro e fr' st' ⟨hk, hds, ⟨rfl, h2, h3⟩ | ⟨rfl, h6, hok⟩⟩
    · simp [hds, h2, h3, hk, hE1]
    · simp
      repeat refine Does.seq ?_
      refine Does.region ?_
      simp [h6]
      refine Does.ret ?_
      simp [hds, hok, hk, hE1]
  case loop =>
    refine Does.block (Does.up s.n (fun i fr st' => Keep st st' ∧ fr.ds = [] ∧ fr.gl = gl ∧ Fr.at fr 0 = .str s ∧ Fr.at fr 6 = .int .i64 (i : Int) ∧ i ≤ s.n ∧ i + (wordL (s.toList.drop i)).1 = E ∧ (wordL (s.toList.drop i)).2 = ok) a ?init ?bound ?step)
    case init => exact ⟨.refl st, by simp, by simp, by simp, by simp, ha, hE0, hok0⟩
    case bound => exact fun i fr st' h => h.2.2.2.2.2.1
    case step =>
      clear hE0 hok0
      rintro i fr st' ⟨hk, hds, hgl, h0, h6, hi, hE, hok⟩
      repeat refine Does.seq ?_
      refine Does.region ?_
      by_cases hlt : i < s.n
      · have hlt' : (i : Int) < (s.n : Int) := by omega
        have hwE := hE
        have hwok := hok
        rw [s.drop_at hlt, wordL] at hE hok
        have hix := vindex_str (P := Tryd.prog) (k := .i64) Tryd.underlying9 hlt
        have hai := s.at_lt i
        simp [h0, h6, hlen, vbin_lss, hlt']
        repeat refine Does.seq ?_
        refine Does.condT (by simp) ?_
        refine Does.skip ?_
        simp
        repeat refine Does.seq ?_
        refine Does.block ?_
        repeat refine Does.seq ?_
        refine Does.region ?_
        simp [h0, h6, hix]
        repeat refine Does.seq ?_
        refine Does.region ?_
        have w1 := wrap1 (i := i) (by omega)
        have w2 := wrap2 (i := i) (by omega)
        simp at w1
        by_cases h92 : s.at i = 92
        · have h92' : (s.at i : Int) = 92 := by omega
          have hb : UInt8.ofNat (s.at i) = 92 := by rw [h92]; rfl
          rw [if_pos hb] at hE hok
          simp [vbin_eql, h92']
          repeat refine Does.seq ?_
          refine Does.condT (by simp) ?_
          repeat refine Does.seq ?_
          refine Does.region ?_
          have hmin := vmin (P := Tryd.prog) (i + 2) s.n
          simp [h6, h0, vbin_add, w2, hlen, hmin]
          refine Does.exit ?_
          simp
          by_cases hend : i + 1 = s.n
          · have hnil : s.toList.drop (i + 1) = [] := by rw [List.drop_eq_nil_iff]; simp [hend]
            rw [if_pos hnil] at hE hok
            have hdn : s.toList.drop s.n = [] := by rw [List.drop_eq_nil_iff]; simp
            exact ⟨s.n, by omega, hk, hds, hgl, h0, by split <;> omega, Nat.le_refl _, by rw [hdn]; simp [wordL] at hE ⊢; omega, by rw [hdn]; simpa [wordL] using hok⟩
          · have hnil : ¬ s.toList.drop (i + 1) = [] := by rw [List.drop_eq_nil_iff]; simp; omega
            rw [if_neg hnil, List.drop_drop, addL_pair] at hE hok
            rw [show i + 1 + 1 = i + 2 from rfl] at hE hok
            exact ⟨i + 2, by omega, hk, hds, hgl, h0, by split <;> omega, by omega, by omega, hok⟩
        · have h92' : ¬ (s.at i : Int) = 92 := by omega
          have hb : ¬ UInt8.ofNat (s.at i) = 92 := fun h => h92 ((byte_eq hai (by decide)).1 h)
          rw [if_neg hb] at hE hok
          simp [vbin_eql, h92']
          repeat refine Does.seq ?_
          refine Does.condF (by simp) ?_
          refine Does.skip ?_
          simp
          repeat refine Does.seq ?_
          refine Does.region ?_
          by_cases h39 : s.at i = 39
          · have h39' : (s.at i : Int) = 39 := by omega
            have hqb : UInt8.ofNat (s.at i) = 39 := by rw [h39]; rfl
            rw [if_pos (.inl hqb), hqb] at hE hok
            simp [vbin_eql, h39']
            repeat refine Does.seq ?_
            refine Does.condT (by simp) ?_
            repeat refine Does.seq ?_
            refine Does.region ?_
            simp [h6, vbin_add, w1]
            repeat refine Does.seq ?_
            refine Does.mono (Q := fun e fr' st'' => st'' = st' ∧ e = AE.normal ∧ fr'.ds = [] ∧ fr'.gl = gl ∧ Fr.at fr' 0 = .str s ∧ Fr.at fr' 6 = .int .i64 (i : Int) ∧ ∃ k : Nat, Fr.at fr' 8 = .int .i64 (k : Int) ∧ ((k < s.n ∧ i + 1 ≤ k ∧ quoteL 39 (s.toList.drop (i + 1)) = some (k - (i + 1))) ∨ (s.n ≤ k ∧ quoteL 39 (s.toList.drop (i + 1)) = none))) ?qa ?qb
            case qa =>
              refine Does.block (Does.up s.n (fun k fr' st'' => st'' = st' ∧ fr'.ds = [] ∧ fr'.gl = gl ∧ Fr.at fr' 0 = .str s ∧ Fr.at fr' 6 = .int .i64 (i : Int) ∧ Fr.at fr' 8 = .int .i64 (k : Int) ∧ k ≤ s.n ∧ i + 1 ≤ k ∧ (quoteL 39 (s.toList.drop k)).map (· + k) = (quoteL 39 (s.toList.drop (i + 1))).map (· + (i + 1))) (i + 1) ?qinit ?qbound ?qstep)
              case qinit => exact ⟨rfl, by simp [hds], by simp [hgl], by simp [h0], by simp [h6], by simp, by omega, Nat.le_refl _, rfl⟩
              case qbound => exact fun i fr st' h => h.2.2.2.2.2.2.1
              case qstep =>
                rintro k fr2 st2 ⟨rfl, hds, hgl, h0, h6, h8, hkn, hki, hq⟩
                repeat refine Does.seq ?_
                refine Does.region ?_
                by_cases hkl : k < s.n
                · have hkl' : (k : Int) < (s.n : Int) := by omega
                  have hkx := vindex_str (P := Tryd.prog) (k := .i64) Tryd.underlying9 hkl
                  have hak := s.at_lt k
                  rw [s.drop_at hkl, quoteL] at hq
                  by_cases hk39 : s.at k = 39
                  · have hk39' : (s.at k : Int) = 39 := by omega
                    rw [if_pos (by rw [hk39]; rfl)] at hq
                    simp [h8, h0, hlen, vbin_lss, vbin_neq, hkl', hkx, hk39']
                    repeat refine Does.seq ?_
                    refine Does.condF (by simp) ?_
                    refine Does.exit ?_
                    simp [hds, hgl, h0, h6, h8]
                    refine ⟨k, rfl, .inl ⟨hkl, by omega, ?_⟩⟩
                    cases hc : quoteL 39 (s.toList.drop (i + 1)) with
                    | none => rw [hc] at hq; simp at hq
                    | some m => rw [hc] at hq; simp at hq ⊢; omega
                  · have hk39' : ¬ (s.at k : Int) = 39 := by omega
                    rw [if_neg (show ¬ UInt8.ofNat (s.at k) = 39 from fun h => hk39 ((byte_eq hak (by decide)).1 h)), if_neg (show ¬ ((39 : UInt8) = 34 ∧ UInt8.ofNat (s.at k) = 92) by rintro ⟨h, _⟩; exact absurd h (by decide))] at hq
                    have w3 := wrap1 (i := k) (by omega)
                    simp at w3
                    simp [h8, h0, hlen, vbin_lss, vbin_neq, hkl', hkx, hk39']
                    repeat refine Does.seq ?_
                    refine Does.condT (by simp) ?_
                    refine Does.skip ?_
                    simp
                    refine Does.block ?_
                    refine Does.region ?_
                    simp [h8, vbin_add, w3]
                    refine ⟨k + 1, by omega, hds, hgl, h0, h6, by simp, by omega, by omega, ?_⟩
                    rw [← hq, Option.map_map]
                    congr 1
                    funext x
                    simp; omega
                · have hkl' : ¬ (k : Int) < (s.n : Int) := by omega
                  simp [h8, h0, hlen, vbin_lss, hkl']
                  repeat refine Does.seq ?_
                  refine Does.condF (by simp) ?_
                  refine Does.exit ?_
                  simp [hds, hgl, h0, h6, h8]
                  refine ⟨k, rfl, .inr ⟨by omega, ?_⟩⟩
                  rw [List.drop_eq_nil_of_le (by simp; omega)] at hq
                  cases hc : quoteL 39 (s.toList.drop (i + 1)) with
                  | none => rfl
                  | some m => rw [hc] at hq; simp [quoteL] at hq
            case qb =>
              rintro e fr' st'' ⟨rfl, rfl, hds, hgl, h0, h6, k, h8, hq⟩
              simp
              repeat refine Does.seq ?_
              refine Does.region ?_
              rcases hq with ⟨hkl, hki, hq⟩ | ⟨hkl, hq⟩
              · have hkl' : ¬ (s.n : Int) ≤ (k : Int) := by omega
                simp [h8, h0, hlen, vbin_geq, hkl']
                repeat refine Does.seq ?_
                refine Does.condF (by simp) ?_
                refine Does.skip ?_
                simp
                repeat refine Does.seq ?_
                refine Does.region ?_
                have w3 := wrap1 (i := k) (by omega)
                simp at w3
                simp [h8, vbin_add, w3]
                refine Does.exit ?_
                simp
                rw [hq] at hE hok
                simp only [addL_pair, List.drop_drop] at hE hok
                rw [show i + 1 + (k - (i + 1) + 1) = k + 1 by omega] at hE hok
                exact ⟨k + 1, by omega, hk, hds, hgl, h0, by simp, by omega, by omega, hok⟩
              · have hkl' : (s.n : Int) ≤ (k : Int) := by omega
                simp [h8, h0, hlen, vbin_geq, hkl']
                repeat refine Does.seq ?_
                refine Does.condT (by simp) ?_
                repeat refine Does.seq ?_
                refine Does.region ?_
                simp [h6]
                refine Does.ret ?_
                rw [hq] at hE hok
                simp at hE hok
                simp [hds, hk, ← hok, hE]
          · have h39' : ¬ (s.at i : Int) = 39 := by omega
            simp [vbin_eql, h39']
            repeat refine Does.seq ?_
            refine Does.condF (by simp) ?_
            refine Does.skip ?_
            simp
            repeat refine Does.seq ?_
            refine Does.region ?_
            by_cases h34 : s.at i = 34
            · have h34' : (s.at i : Int) = 34 := by omega
              have hqb : UInt8.ofNat (s.at i) = 34 := by rw [h34]; rfl
              rw [if_pos (.inr hqb), hqb] at hE hok
              simp [vbin_eql, h34']
              repeat refine Does.seq ?_
              refine Does.condT (by simp) ?_
              repeat refine Does.seq ?_
              refine Does.region ?_
              simp [h6, vbin_add, w1]
              repeat refine Does.seq ?_
              refine Does.mono (Q := fun e fr' st'' => st'' = st' ∧ e = AE.normal ∧ fr'.ds = [] ∧ fr'.gl = gl ∧ Fr.at fr' 0 = .str s ∧ Fr.at fr' 6 = .int .i64 (i : Int) ∧ ∃ k : Nat, Fr.at fr' 9 = .int .i64 (k : Int) ∧ ((k < s.n ∧ i + 1 ≤ k ∧ quoteL 34 (s.toList.drop (i + 1)) = some (k - (i + 1))) ∨ (s.n ≤ k ∧ quoteL 34 (s.toList.drop (i + 1)) = none))) ?da ?db
              case da =>
                refine Does.block (Does.up (s.n + 1) (fun k fr' st'' => st'' = st' ∧ fr'.ds = [] ∧ fr'.gl = gl ∧ Fr.at fr' 0 = .str s ∧ Fr.at fr' 6 = .int .i64 (i : Int) ∧ Fr.at fr' 9 = .int .i64 (k : Int) ∧ k ≤ s.n + 1 ∧ i + 1 ≤ k ∧ ((k ≤ s.n ∧ (quoteL 34 (s.toList.drop k)).map (· + k) = (quoteL 34 (s.toList.drop (i + 1))).map (· + (i + 1))) ∨ (k = s.n + 1 ∧ quoteL 34 (s.toList.drop (i + 1)) = none))) (i + 1) ?dinit ?dbound ?dstep)
                case dinit => exact ⟨rfl, by simp [hds], by simp [hgl], by simp [h0], by simp [h6], by simp, by omega, Nat.le_refl _, .inl ⟨by omega, rfl⟩⟩
                case dbound => exact fun i fr st' h => h.2.2.2.2.2.2.1
                case dstep =>
                  rintro k fr2 st2 ⟨rfl, hds, hgl, h0, h6, h9, hkn, hki, hq⟩
                  repeat refine Does.seq ?_
                  refine Does.region ?_
                  by_cases hkl : k < s.n
                  · have hkl' : (k : Int) < (s.n : Int) := by omega
                    obtain ⟨_, hq⟩ := hq.resolve_right (by omega)
                    have hkx := vindex_str (P := Tryd.prog) (k := .i64) Tryd.underlying9 hkl
                    have hak := s.at_lt k
                    have w3 := wrap1 (i := k) (by omega)
                    have w4 := wrap1 (i := k + 1) (by omega)
                    simp at w3 w4
                    rw [s.drop_at hkl, quoteL] at hq
                    by_cases hk34 : s.at k = 34
                    · have hk34' : (s.at k : Int) = 34 := by omega
                      rw [if_pos (by rw [hk34]; rfl)] at hq
                      simp [h9, h0, hlen, vbin_lss, vbin_neq, hkl', hkx, hk34']
                      repeat refine Does.seq ?_
                      refine Does.condF (by simp) ?_
                      refine Does.exit ?_
                      simp [hds, hgl, h0, h6, h9]
                      refine ⟨k, rfl, .inl ⟨hkl, by omega, ?_⟩⟩
                      cases hc : quoteL 34 (s.toList.drop (i + 1)) with
                      | none => rw [hc] at hq; simp at hq
                      | some m => rw [hc] at hq; simp at hq ⊢; omega
                    · have hk34' : ¬ (s.at k : Int) = 34 := by omega
                      rw [if_neg (show ¬ UInt8.ofNat (s.at k) = 34 from fun h => hk34 ((byte_eq hak (by decide)).1 h))] at hq
                      simp [h9, h0, hlen, vbin_lss, vbin_neq, hkl', hkx, hk34']
                      repeat refine Does.seq ?_
                      refine Does.condT (by simp) ?_
                      refine Does.skip ?_
                      simp
                      refine Does.block ?_
                      repeat refine Does.seq ?_
                      refine Does.region ?_
                      by_cases hk92 : s.at k = 92
                      · have hk92' : (s.at k : Int) = 92 := by omega
                        rw [if_pos ⟨rfl, by rw [hk92]; rfl⟩] at hq
                        simp [h9, h0, hkx, vbin_eql, hk92']
                        repeat refine Does.seq ?_
                        refine Does.condT (by simp) ?_
                        refine Does.region ?_
                        simp [h9, vbin_add, w3]
                        refine Does.region ?_
                        simp [vbin_add, w4]
                        refine ⟨k + 2, by omega, hds, hgl, h0, h6, by simp; omega, by omega, by omega, ?_⟩
                        by_cases hend : k + 1 = s.n
                        · rw [if_pos (by rw [hend, List.drop_eq_nil_iff]; simp)] at hq
                          refine .inr ⟨by omega, ?_⟩
                          cases h : quoteL 34 (s.toList.drop (i + 1)) with
                          | none => rfl
                          | some m => rw [h] at hq; simp at hq
                        · rw [if_neg (by rw [List.drop_eq_nil_iff]; simp; omega), List.drop_drop] at hq
                          refine .inl ⟨by omega, ?_⟩
                          rw [← hq, Option.map_map]
                          congr 1
                          funext x
                          simp; omega
                      · have hk92' : ¬ (s.at k : Int) = 92 := by omega
                        rw [if_neg (show ¬ ((34 : UInt8) = 34 ∧ UInt8.ofNat (s.at k) = 92) by rintro ⟨_, h⟩; exact hk92 ((byte_eq hak (by decide)).1 h))] at hq
                        simp [h9, h0, hkx, vbin_eql, hk92']
                        repeat refine Does.seq ?_
                        refine Does.condF (by simp) ?_
                        refine Does.skip ?_
                        simp
                        refine Does.region ?_
                        simp [h9, vbin_add, w3]
                        refine ⟨k + 1, by omega, hds, hgl, h0, h6, by simp, by omega, by omega, .inl ⟨by omega, ?_⟩⟩
                        rw [← hq, Option.map_map]
                        congr 1
                        funext x
                        simp; omega
                  · have hkl' : ¬ (k : Int) < (s.n : Int) := by omega
                    simp [h9, h0, hlen, vbin_lss, hkl']
                    repeat refine Does.seq ?_
                    refine Does.condF (by simp) ?_
                    refine Does.exit ?_
                    simp [hds, hgl, h0, h6, h9]
                    refine ⟨k, rfl, .inr ⟨by omega, ?_⟩⟩
                    rcases hq with ⟨_, hq⟩ | ⟨_, hq⟩
                    · rw [List.drop_eq_nil_of_le (by simp; omega)] at hq
                      cases hc : quoteL 34 (s.toList.drop (i + 1)) with
                      | none => rfl
                      | some m => rw [hc] at hq; simp [quoteL] at hq
                    · exact hq
              case db =>
                rintro e fr' st'' ⟨rfl, rfl, hds, hgl, h0, h6, k, h9, hq⟩
                simp
                repeat refine Does.seq ?_
                refine Does.region ?_
                rcases hq with ⟨hkl, hki, hq⟩ | ⟨hkl, hq⟩
                · have hkl' : ¬ (s.n : Int) ≤ (k : Int) := by omega
                  simp [h9, h0, hlen, vbin_geq, hkl']
                  repeat refine Does.seq ?_
                  refine Does.condF (by simp) ?_
                  refine Does.skip ?_
                  simp
                  repeat refine Does.seq ?_
                  refine Does.region ?_
                  have w3 := wrap1 (i := k) (by omega)
                  simp at w3
                  simp [h9, vbin_add, w3]
                  refine Does.exit ?_
                  simp
                  rw [hq] at hE hok
                  simp only [addL_pair, List.drop_drop] at hE hok
                  rw [show i + 1 + (k - (i + 1) + 1) = k + 1 by omega] at hE hok
                  exact ⟨k + 1, by omega, hk, hds, hgl, h0, by simp, by omega, by omega, hok⟩
                · have hkl' : (s.n : Int) ≤ (k : Int) := by omega
                  simp [h9, h0, hlen, vbin_geq, hkl']
                  repeat refine Does.seq ?_
                  refine Does.condT (by simp) ?_
                  repeat refine Does.seq ?_
                  refine Does.region ?_
                  simp [h6]
                  refine Does.ret ?_
                  rw [hq] at hE hok
                  simp at hE hok
                  simp [hds, hk, ← hok, hE]
            · have h34' : ¬ (s.at i : Int) = 34 := by omega
              have hqb : ¬ (UInt8.ofNat (s.at i) = 39 ∨ UInt8.ofNat (s.at i) = 34) := by
                rintro (h | h)
                · exact h39 ((byte_eq hai (by decide)).1 h)
                · exact h34 ((byte_eq hai (by decide)).1 h)
              rw [if_neg hqb, ends_op _ (s.toList.drop (i + 1)), ← s.drop_at hlt] at hE hok
              simp [vbin_eql, h34']
              repeat refine Does.seq ?_
              refine Does.condF (by simp) ?_
              refine Does.skip ?_
              simp
              repeat refine Does.seq ?_
              refine Does.region ?_
              have fin : ∀ (fr' : Fr) (st2 : St), Keep st st2 → fr'.ds = [] → Fr.at fr' 6 = .int .i64 (i : Int) → E = i ∧ ok = true → True := fun _ _ _ _ _ _ => trivial
              by_cases hsp : s.at i = 32 ∨ s.at i = 9 ∨ s.at i = 10
              · have hbb : (UInt8.ofNat (s.at i) == 32 || UInt8.ofNat (s.at i) == 9 || UInt8.ofNat (s.at i) == 10) = true := by
                  rcases hsp with h | h | h <;> rw [h] <;> rfl
                rw [hbb, Bool.true_or, if_pos rfl] at hE hok
                have ht : ∃ fr1, xOps Tryd.prog (ihCall (W Tryd.prog)) none #[] [] fr st' = .ok fr1 st' := ⟨fr, rfl⟩
                rcases hsp with h | h | h
                all_goals
                  have h' : (s.at i : Int) = _ := congrArg _ h
                  simp [vbin_eql, h']
                  repeat refine Does.seq ?_
                  refine Does.condT (by simp) ?_
                  repeat refine Does.seq ?_
                  refine Does.region ?_
                  simp [h6]
                  refine Does.ret ?_
                  simp at hE hok
                  simp [hds, hk, ← hok, hE]
              · have hbb : (UInt8.ofNat (s.at i) == 32 || UInt8.ofNat (s.at i) == 9 || UInt8.ofNat (s.at i) == 10) = false := by
                  simp only [Bool.or_eq_false_iff, beq_eq_false_iff_ne, ne_eq]
                  refine ⟨⟨fun h => hsp (.inl ((byte_eq hai (by decide)).1 h)), fun h => hsp (.inr (.inl ((byte_eq hai (by decide)).1 h)))⟩, fun h => hsp (.inr (.inr ((byte_eq hai (by decide)).1 h)))⟩
                rw [hbb, Bool.false_or] at hE hok
                obtain ⟨v, st2, hcall, o, rfl, ho, hk2⟩ := op_ok gl st' s i hi hn
                have hcall := ihCall_W hcall
                have g1 : ¬ (s.at i : Int) = 32 := by omega
                have g2 : ¬ (s.at i : Int) = 9 := by omega
                have g3 : ¬ (s.at i : Int) = 10 := by omega
                have hsn := same_nil o
                rw [ho] at hsn
                simp [vbin_eql, g1, g2, g3, h0, h6, hgl, vcall_callable hk18, hcall, vbin_sneq, hsn]
                repeat refine Does.seq ?_
                cases hop : opIx (s.toList.drop i) with
                | some j =>
                  have hno : ¬ opTx (s.toList.drop i) = [] := by rw [opTx_nil, hop]; simp
                  rw [hop] at hE hok
                  simp at hE hok
                  refine Does.condT (by simp [hno]) ?_
                  repeat refine Does.seq ?_
                  refine Does.region ?_
                  simp [h6]
                  refine Does.ret ?_
                  simp [hds, hk.trans hk2, ← hok, hE]
                | none =>
                  have hno : opTx (s.toList.drop i) = [] := by rw [opTx_nil, hop]
                  rw [hop] at hE hok
                  simp [addL_pair] at hE hok
                  refine Does.condF (by simp [hno]) ?_
                  refine Does.skip ?_
                  simp
                  refine Does.region ?_
                  simp [h6, vbin_add, w1]
                  exact ⟨i + 1, by omega, hk.trans hk2, hds, hgl, h0, by simp, by omega, by omega, hok⟩
      · have hlt' : ¬ (i : Int) < (s.n : Int) := by omega
        simp [h0, h6, hlen, vbin_lss, hlt']
        repeat refine Does.seq ?_
        refine Does.condF (by simp) ?_
        refine Does.exit ?_
        rw [List.drop_eq_nil_of_le (by simp; omega)] at hE hok
        simp [wordL] at hE hok
        simp [hds, hk, h6, ← hok]
        omega
end Go.Vm
