/- lex.Tokens is the plain spec. -/
import Derived.Test.YtedkiipdgffoaaaDoorLxI
namespace Go.Vm
open Go Go.Proofs Go.Lx
attribute [local simp] Oks xOps vwanted isDefer vop kindOf vpure ev evs toV andThen inBlock atTo_some Fr.dsTo Fr.glTo Fr.toNone initFr_at initFr_ds initFr_gl veff traverse tupled vresult V.undef evOpt xDraw xStep

/-- what Tokens comes to -/
def TokR (l : List UInt8) (st : St) (v : V) (st' : St) : Prop :=
  ∃ x ts, v = .tup [x, .int .i64 ((tokL l).2.1 : Int), .int .i64 ((tokL l).2.2 : Int)] ∧ Ot st.ctr st' x ts ∧ ts.map Tk.tok = (tokL l).1 ∧ ts.length ≤ l.length ∧ Keep st st'

theorem zero_index (l : List UInt8) : Lib.indexByte l 0 = if zeroL l < l.length then (zeroL l : Int) else -1 := by
  rw [indexByte_eq]
  by_cases h : (0 : UInt8) ∈ l
  · rw [if_pos h]
    have : zeroL l < l.length := by
      unfold zeroL
      rcases Nat.lt_or_ge (l.takeWhile (· ≠ 0)).length l.length with h1 | h1
      · exact h1
      · exfalso
        have h2 := (List.takeWhile_prefix (p := fun x : UInt8 => decide (x ≠ 0)) (l := l)).eq_of_length_le h1
        rw [← h2] at h
        have := List.all_eq_true.1 (List.all_takeWhile (p := fun x : UInt8 => decide (x ≠ 0)) (l := l)) _ h
        simp at this
    rw [if_pos this]; rfl
  · rw [if_neg h]
    have : ¬ zeroL l < l.length := by
      unfold zeroL
      rw [takeWhile_all (fun x hx => by simp only [decide_eq_true_eq, ne_eq]; intro h2; subst h2; exact h hx)]
      omega
    rw [if_neg this]
theorem zeroL_le (l : List UInt8) : zeroL l ≤ l.length := (List.takeWhile_prefix _).length_le

theorem cutL_at {l : List UInt8} {a : Nat} {b : UInt8} {r : List UInt8} (h : l.drop a = b :: r) : cutL (l.drop a) a = match stepL b r with
    | .gap n => cutL (l.drop (a + n)) (a + n)
    | .tok k n => (⟨k, (b :: r).take n, a⟩ :: (cutL (l.drop (a + n)) (a + n)).1, (cutL (l.drop (a + n)) (a + n)).2)
    | .bad n => ([], some (a + n)) := by
  obtain ⟨h1, h2, h3⟩ := stepL_len b r
  have hd : ∀ n, 1 ≤ n → l.drop (a + n) = r.drop (n - 1) := fun n hn => by
    rw [← List.drop_drop, h]
    obtain ⟨m, rfl⟩ : ∃ m, n = m + 1 := ⟨n - 1, by omega⟩
    rfl
  rw [h, cutL]
  cases hs : stepL b r with
  | gap n => simp only; rw [hd n (h1 n hs).1]
  | tok k n => simp only; rw [hd n (h2 k n hs).1]
  | bad n => rfl

def BadQ (l : List UInt8) (z : Nat) (fr : Fr) : Prop := ∃ p, Fr.at fr 2 = .nils ∧ Fr.at fr 3 = .int .i64 ((min p z : Nat) : Int) ∧ Fr.at fr 4 = .int .i64 63 ∧ (cutL l 0).2 = some p

variable [Memo] [NL]

set_option maxHeartbeats 1000000 in
theorem tokens_ok (gl : Gl) (hgl : gl.get 0 = some (opsS.map .str)) (st : St) (s : S) (hn : s.n < 800000) :
    ∃ v st', W Tryd.prog (.call gl 10 [.str s]) st = .call (.val v st') ∧ TokR s.toList st v st' := by
  have hk16 : callable Tryd.prog 16 = true := by kernel_rfl
  have hk17 : callable Tryd.prog 17 = true := by kernel_rfl
  have hlen := vlen_str Tryd.underlying9 (s := s)
  have f1 := field1 st.ctr
  have f2 := field2 st.ctr
  have hb40 : vbuild Tryd.prog 40 [(0, .str s)] = some (.agg [.str s, .int .i64 0, .nils]) := by kernel_rfl
  refine call_ex (NL.no _ rfl _ _) Tryd.func10 rfl (by kernel_rfl) ?_
  repeat refine Does.seq ?_
  refine Does.region ?_
  simp
  repeat refine Does.seq ?_
  refine Does.region ?_
  by_cases hlong : 16384 < s.n
  · have hlong' : (16384 : Int) < (s.n : Int) := by omega
    have htk : tokL s.toList = ([], 0, 40) := by unfold tokL; rw [if_pos (by simp; omega)]
    simp [hlen, vbin_gtr, hlong']
    repeat refine Does.seq ?_
    refine Does.condT (by simp) ?_
    repeat refine Does.seq ?_
    refine Does.region ?_
    simp
    refine Does.ret ?_
    simp
    exact ⟨.nils, [], by rw [htk]; rfl, .nils, by rw [htk]; rfl, Nat.zero_le _, .refl st⟩
  · have hlong' : ¬ (16384 : Int) < (s.n : Int) := by omega
    have htk : tokL s.toList = match cutL s.toList 0 with
      | (_, some e) => ([], min e (zeroL s.toList), 63)
      | (ts, none) => if zeroL s.toList < s.toList.length then ([], zeroL s.toList, 63) else (ts, 0, 0) := by
      unfold tokL; rw [if_neg (by simp; omega)]; rfl
    simp [hlen, vbin_gtr, hlong']
    repeat refine Does.seq ?_
    refine Does.condF (by simp) ?_
    refine Does.skip ?_
    simp
    repeat refine Does.seq ?_
    refine Does.region ?_
    have hidx := ihCall_W (strings_index gl st s 0)
    have h00 : (0 : Nat).toUInt8 = 0 := rfl
    rw [h00, zero_index, S.len] at hidx
    simp only [Int.cast_ofNat_Int] at hidx
    have hz := zeroL_le s.toList
    rw [S.len] at hz
    generalize hzz : zeroL s.toList = z at hidx hz htk
    simp [vcall_callable hk16, hidx]
    repeat refine Does.seq ?_
    refine Does.region ?_
    simp [evParts, hb40, valloc, V.cells, oneC, mkRef]
    have hcu0 : Cu { ctr := st.ctr + 1, box := st.box.put st.ctr (.cells [.str s, .int .i64 0, .nils] 40 true (some 0)) } st.ctr s 0 .nils := by simp [Cu, Tr.get_put]
    have hkp0 : Keep st { ctr := st.ctr + 1, box := st.box.put st.ctr (.cells [.str s, .int .i64 0, .nils] 40 true (some 0)) } := (Keep.refl st).new _
    have hct0 : st.ctr + 1 ≤ ({ ctr := st.ctr + 1, box := st.box.put st.ctr (.cells [.str s, .int .i64 0, .nils] 40 true (some 0)) } : St).ctr := Nat.le_refl _
    revert hcu0 hkp0 hct0
    generalize ({ ctr := st.ctr + 1, box := st.box.put st.ctr (.cells [.str s, .int .i64 0, .nils] 40 true (some 0)) } : St) = st1
    intro hcu0 hkp0 hct0
    repeat refine Does.seq ?_
    refine Does.mono (Q := fun e fr' st' => Keep st st' ∧ fr'.ds = [] ∧ ((e = AE.ret ∧ BadQ s.toList z fr') ∨
      (e = AE.normal ∧ Fr.at fr' 5 = .int .i64 (if z < s.n then (z : Int) else -1) ∧ Fr.at fr' 6 = .ptr st.ctr 0 ∧ ∃ out ts, Cu st' st.ctr s s.n out ∧ Ot (st.ctr + 1) st' out ts ∧ ts.length ≤ s.n ∧ cutL s.toList 0 = (ts.map Tk.tok, none)))) ?loop ?tail
    case tail =>
      rintro e fr' st' ⟨hk, hds, ⟨rfl, p, h2, h3, h4, hcut⟩ | ⟨rfl, h5, h6, out, ts, hcu, hot, hts, hcut⟩⟩
      · have htk2 : tokL s.toList = ([], min p z, 63) := by
          rw [htk]
          generalize hcc : cutL s.toList 0 = cc at hcut
          obtain ⟨c1, c2⟩ := cc
          simp only at hcut
          subst hcut
          rfl
        generalize min p z = m at h3 htk2
        simp [hds, h2, h3, h4]
        exact ⟨.nils, [], by rw [htk2]; rfl, .nils, by rw [htk2]; rfl, Nat.zero_le _, hk⟩
      · simp
        repeat refine Does.seq ?_
        refine Does.region ?_
        rw [hcut] at htk
        simp only [S.len] at htk
        by_cases hzn : z < s.n
        · rw [if_pos hzn] at htk h5
          have hge : (0 : Int) ≤ (z : Int) := by omega
          simp [h5, vbin_geq]
          repeat refine Does.seq ?_
          refine Does.condT (by simp) ?_
          repeat refine Does.seq ?_
          refine Does.region ?_
          simp [h5]
          refine Does.ret ?_
          simp [hds]
          exact ⟨.nils, [], by rw [htk]; rfl, .nils, by rw [htk]; rfl, Nat.zero_le _, hk⟩
        · rw [if_neg hzn] at htk h5
          simp [h5, vbin_geq]
          repeat refine Does.seq ?_
          refine Does.condF (by simp) ?_
          refine Does.skip ?_
          simp
          repeat refine Does.seq ?_
          refine Does.region ?_
          simp [h6, f2, hcu.l2]
          refine Does.ret ?_
          simp [hds]
          exact ⟨out, ts, by rw [htk]; rfl, hot.weaken (Nat.le_succ _), by rw [htk], by simpa using hts, hk⟩
    case loop =>
      refine Does.block (Does.up s.n (fun a fr st' => Keep st st' ∧ st.ctr + 1 ≤ st'.ctr ∧ fr.ds = [] ∧ fr.gl = gl ∧ Fr.at fr 0 = .str s ∧ Fr.at fr 5 = .int .i64 (if z < s.n then (z : Int) else -1) ∧ Fr.at fr 6 = .ptr st.ctr 0 ∧ a ≤ s.n ∧
        ∃ out ts, Cu st' st.ctr s a out ∧ Ot (st.ctr + 1) st' out ts ∧ ts.length ≤ a ∧ cutL s.toList 0 = (ts.map Tk.tok ++ (cutL (s.toList.drop a) a).1, (cutL (s.toList.drop a) a).2)) 0 ?init ?bound ?step)
      case init => exact ⟨hkp0, hct0, by simp, by simp, by simp, by simp, by simp, Nat.zero_le _, .nils, [], hcu0, .nils, by simp, by simp⟩
      case bound => exact fun i fr st' h => h.2.2.2.2.2.2.2.1
      case step =>
        rintro a fr st' ⟨hk, hct, hds, hg, h0, h5, h6, han, out, ts, hcu, hot, hts, hcut⟩
        repeat refine Does.seq ?_
        refine Does.region ?_
        by_cases hlt : a < s.n
        · have hlt' : (a : Int) < (s.n : Int) := by omega
          have hbr := s.drop_at hlt
          have hrl : (s.toList.drop (a + 1)).length + 1 = s.n - a := by simp; omega
          rw [cutL_at hbr] at hcut
          obtain ⟨k1, k2, k3⟩ := stepL_len (UInt8.ofNat (s.at a)) (s.toList.drop (a + 1))
          simp [h0, h6, f1, hcu.l1, hlen, vbin_lss, hlt']
          repeat refine Does.seq ?_
          refine Does.condT (by simp) ?_
          refine Does.skip ?_
          simp
          refine Does.block ?_
          repeat refine Does.seq ?_
          refine Does.region ?_
          obtain ⟨v, st2, hcall, x, ok, rfl, hct2, hfm2, hst2⟩ := cut_ok gl hgl st' (st.ctr + 1) st.ctr s a out ts hcu (Nat.lt_succ_self _) hct hot hlt (by omega) (by omega) _ _ hbr
          have hcall := ihCall_W hcall
          have hk2 : Keep st st2 := ⟨by have := hk.ctr; omega, fun i hi => by rw [hfm2 i (by omega) (by omega), hk.box i hi]⟩
          simp [h6, hg, vcall_callable hk17, hcall]
          clear hcall
          repeat refine Does.seq ?_
          refine Does.region ?_
          generalize hstp : stepL (UInt8.ofNat (s.at a)) (s.toList.drop (a + 1)) = stp at hst2 hcut k1 k2 k3
          cases stp with
          | bad n =>
            obtain ⟨rfl, rfl⟩ := hst2
            have hn1 := k3 n rfl
            simp
            repeat refine Does.seq ?_
            refine Does.condT (by simp) ?_
            repeat refine Does.seq ?_
            refine Does.region ?_
            by_cases hzn : z < s.n
            · rw [if_pos hzn] at h5
              have hmin := vmin (P := Tryd.prog) (a + n) z
              simp [h5, vbin_geq]
              repeat refine Does.seq ?_
              refine Does.condT (by simp) ?_
              refine Does.region ?_
              simp at hmin
              simp [h5, hmin]
              repeat refine Does.seq ?_
              refine Does.region ?_
              simp
              refine Does.ret ?_
              simp only [andThen, inBlock]
              refine ⟨hk2, by simp [hds], .inl ⟨trivial, a + n, by simp, ?_, by simp, ?_⟩⟩
              · simp
              · rw [hcut]
            · rw [if_neg hzn] at h5
              simp [h5, vbin_geq]
              repeat refine Does.seq ?_
              refine Does.condF (by simp) ?_
              refine Does.skip ?_
              simp
              repeat refine Does.seq ?_
              refine Does.region ?_
              simp
              refine Does.ret ?_
              simp only [andThen, inBlock]
              refine ⟨hk2, by simp [hds], .inl ⟨trivial, a + n, by simp, ?_, by simp, ?_⟩⟩
              · have hm : min (a + n) z = a + n := by omega
                rw [hm]; simp
              · rw [hcut]
          | gap n =>
            obtain ⟨rfl, out', hcu', hot'⟩ := hst2
            have hn1 := k1 n rfl
            simp
            repeat refine Does.seq ?_
            refine Does.condF (by simp) ?_
            refine Does.skip ?_
            simp
            exact ⟨a + n, by omega, hk2, by omega, hds, hg, h0, h5, h6, by omega, out', hcu', ts, hot', by omega, hcut⟩
          | tok k n =>
            obtain ⟨rfl, out', hcu', hot'⟩ := hst2
            have hn1 := k2 k n rfl
            simp
            repeat refine Does.seq ?_
            refine Does.condF (by simp) ?_
            refine Does.skip ?_
            simp
            refine ⟨a + n, by omega, hk2, by omega, hds, hg, h0, h5, h6, by omega, out', hcu', ts ++ [⟨k, s.cut a (a + n), a⟩], hot', by simp; omega, ?_⟩
            rw [hcut]
            simp only [List.map_append, List.map_cons, List.map_nil, List.append_assoc, List.cons_append, List.nil_append]
            have : (⟨k, s.cut a (a + n), a⟩ : Tk).tok = ⟨k, (UInt8.ofNat (s.at a) :: s.toList.drop (a + 1)).take n, a⟩ := by
              simp only [Tk.tok]
              rw [S.toList_cut s (by omega) (by omega), hbr, show a + n - a = n by omega]
            rw [this]
        · have hlt' : ¬ (a : Int) < (s.n : Int) := by omega
          simp [h0, h6, f1, hcu.l1, hlen, vbin_lss, hlt']
          repeat refine Does.seq ?_
          refine Does.condF (by simp) ?_
          refine Does.exit ?_
          have han' : a = s.n := by omega
          subst han'
          have hdn : s.toList.drop s.n = [] := by rw [List.drop_eq_nil_iff]; simp
          rw [hdn] at hcut
          simp only [cutL, List.append_nil] at hcut
          simp only [andThen, inBlock, if_true]
          exact ⟨hk, by simp [hds], .inr ⟨trivial, by simp [h5], by simp [h6], out, hcu, ts, hot, hts, hcut⟩⟩
end Go.Vm
