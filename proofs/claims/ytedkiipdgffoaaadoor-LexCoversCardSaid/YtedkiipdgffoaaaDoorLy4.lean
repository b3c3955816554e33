/- lex.Tokens is the plain spec. The document's Tokens is the plain spec. The law LexTokens returns true, by the evaluator's equations. -/
import Derived.Test.YtedkiipdgffoaaaDoorLy3
namespace Go.Vm
open Go Go.Proofs Go.Lx
attribute [local simp] Oks xOps vwanted isDefer vop kindOf vpure ev evs toV andThen inBlock atTo_some Fr.dsTo Fr.glTo Fr.toNone initFr_at initFr_ds initFr_gl veff traverse tupled vresult V.undef evOpt xDraw xStep

/-- what Tokens comes to -/
def TokR (l : List UInt8) (st : St) (v : V) (st' : St) : Prop :=
  ∃ x ts, v = .tup [x, .int .i64 ((tokL l).2.1 : Int), .int .i64 ((tokL l).2.2 : Int)] ∧ Ot st.ctr st' x ts ∧ ts.map Tk.tok = (tokL l).1 ∧ ts.length ≤ l.length ∧ Keep st st'

theorem zero_index (l : List UInt8) : Lib.indexByte l 0 = if zeroL l < l.length then (zeroL l : Int) else -1 := by
  rw [indexByte_eq]
  by_cases h : (0 : UInt8) ∈ l
  · rw [if_pos h]
    have : zeroL l < l.length := by
      unfold zeroL
      rcases Nat.lt_or_ge (l.takeWhile (· ≠ 0)).length l.length with h1 | h1
      · exact h1
      · exfalso
        have h2 := (List.takeWhile_prefix (p := fun x : UInt8 => decide (x ≠ 0)) (l := l)).eq_of_length_le h1
        rw [← h2] at h
        have := List.all_eq_true.1 (List.all_takeWhile (p := fun x : UInt8 => decide (x ≠ 0)) (l := l)) _ h
        simp at this
    rw [if_pos this]; rfl
  · rw [if_neg h]
    have : ¬ zeroL l < l.length := by
      unfold zeroL
      rw [takeWhile_all (fun x hx => by simp only [decide_eq_true_eq, ne_eq]; intro h2; subst h2; exact h hx)]
      omega
    rw [if_neg this]
theorem zeroL_le (l : List UInt8) : zeroL l ≤ l.length := (List.takeWhile_prefix _).length_le

theorem cutL_at {l : List UInt8} {a : Nat} {b : UInt8} {r : List UInt8} (h : l.drop a = b :: r) : cutL (l.drop a) a = match stepL b r with
    | .gap n => cutL (l.drop (a + n)) (a + n)
    | .tok k n => (⟨k, (b :: r).take n, a⟩ :: (cutL (l.drop (a + n)) (a + n)).1, (cutL (l.drop (a + n)) (a + n)).2)
    | .bad n => ([], some (a + n)) := by
  obtain ⟨h1, h2, h3⟩ := stepL_len b r
  have hd : ∀ n, 1 ≤ n → l.drop (a + n) = r.drop (n - 1) := fun n hn => by
    rw [← List.drop_drop, h]
    obtain ⟨m, rfl⟩ : ∃ m, n = m + 1 := ⟨n - 1, by omega⟩
    rfl
  rw [h, cutL]
  cases hs : stepL b r with
  | gap n => simp only; rw [hd n (h1 n hs).1]
  | tok k n => simp only; rw [hd n (h2 k n hs).1]
  | bad n => rfl

def BadQ (l : List UInt8) (z : Nat) (fr : Fr) : Prop := ∃ p, Fr.at fr 2 = .nils ∧ Fr.at fr 3 = .int .i64 ((min p z : Nat) : Int) ∧ Fr.at fr 4 = .int .i64 63 ∧ (cutL l 0).2 = some p

variable [Memo] [NL]

set_option maxHeartbeats 1000000 in
theorem tokens_ok (gl : Gl) (hgl : gl.get 0 = some (opsS.map .str)) (st : St) (s : S) (hn : s.n < 800000) :
    ∃ v st', W Tryd.prog (.call gl 10 [.str s]) st = .call (.val v st') ∧ TokR s.toList st v st' := by
  have hk16 : callable Tryd.prog 16 = true := by kernel_rfl
  have hk17 : callable Tryd.prog 17 = true := by kernel_rfl
  have hlen := vlen_str Tryd.underlying9 (s := s)
  have f1 := field1 st.ctr
  have f2 := field2 st.ctr
  have hb40 : vbuild Tryd.prog 40 [(0, .str s)] = some (.agg [.str s, .int .i64 0, .nils]) := by kernel_rfl
  refine call_ex (NL.no _ rfl _ _) Tryd.func10 rfl (by kernel_rfl) ?_
  repeat refine Does.seq ?_
  refine Does.region ?_
  simp
  repeat refine Does.seq ?_
  refine Does.region ?_
  by_cases hlong : 16384 < s.n
  · have hlong' : (16384 : Int) < (s.n : Int) := by omega
    have htk : tokL s.toList = ([], 0, 40) := by unfold tokL; rw [if_pos (by simp; omega)]
    simp [hlen, vbin_gtr, hlong']
    repeat refine Does.seq ?_
    refine Does.condT (by simp) ?_
    repeat refine Does.seq ?_
    refine Does.region ?_
    simp
    refine Does.ret ?_
    simp
    exact ⟨.nils, [], by rw [htk]; rfl, .nils, by rw [htk]; rfl, Nat.zero_le _, .refl st⟩
  · have hlong' : ¬ (16384 : Int) < (s.n : Int) := by omega
    have htk : tokL s.toList = match cutL s.toList 0 with
      | (_, some e) => ([], min e (zeroL s.toList), 63)
      | (ts, none) => if zeroL s.toList < s.toList.length then ([], zeroL s.toList, 63) else (ts, 0, 0) := by
      unfold tokL; rw [if_neg (by simp; omega)]; rfl
    simp [hlen, vbin_gtr, hlong']
    repeat refine Does.seq ?_
    refine Does.condF (by simp) ?_
    refine Does.skip ?_
    simp
    repeat refine Does.seq ?_
    refine Does.region ?_
    have hidx := ihCall_W (strings_index gl st s 0)
    have h00 : (0 : Nat).toUInt8 = 0 := rfl
    rw [h00, zero_index, S.len] at hidx
    simp only [Int.cast_ofNat_Int] at hidx
    have hz := zeroL_le s.toList
    rw [S.len] at hz
    generalize hzz : zeroL s.toList = z at hidx hz htk
    simp [vcall_callable hk16, hidx]
    repeat refine Does.seq ?_
    refine Does.region ?_
    simp [evParts, hb40, valloc, V.cells, oneC, mkRef]
    have hcu0 : Cu { ctr := st.ctr + 1, box := st.box.put st.ctr (.cells [.str s, .int .i64 0, .nils] 40 true (some 0)) } st.ctr s 0 .nils := by simp [Cu, Tr.get_put]
    have hkp0 : Keep st { ctr := st.ctr + 1, box := st.box.put st.ctr (.cells [.str s, .int .i64 0, .nils] 40 true (some 0)) } := (Keep.refl st).new _
    have hct0 : st.ctr + 1 ≤ ({ ctr := st.ctr + 1, box := st.box.put st.ctr (.cells [.str s, .int .i64 0, .nils] 40 true (some 0)) } : St).ctr := Nat.le_refl _
    revert hcu0 hkp0 hct0
    generalize ({ ctr := st.ctr + 1, box := st.box.put st.ctr (.cells [.str s, .int .i64 0, .nils] 40 true (some 0)) } : St) = st1
    intro hcu0 hkp0 hct0
    repeat refine Does.seq ?_
    refine Does.mono (Q := fun e fr' st' => Keep st st' ∧ fr'.ds = [] ∧ ((e = AE.ret ∧ BadQ s.toList z fr') ∨
      (e = AE.normal ∧ Fr.at fr' 5 = .int .i64 (if z < s.n then (z : Int) else -1) ∧ Fr.at fr' 6 = .ptr st.ctr 0 ∧ ∃ out ts, Cu st' st.ctr s s.n out ∧ Ot (st.ctr + 1) st' out ts ∧ ts.length ≤ s.n ∧ cutL s.toList 0 = (ts.map Tk.tok, none)))) ?loop ?tail
    case tail =>
      rintro e fr' st' ⟨hk, hds, ⟨rfl, p, h2, h3, h4, hcut⟩ | ⟨rfl, h5, h6, out, ts, hcu, hot, hts, hcut⟩⟩
      · have htk2 : tokL s.toList = ([], min p z, 63) := by
          rw [htk]
          generalize hcc : cutL s.toList 0 = cc at hcut
          obtain ⟨c1, c2⟩ := cc
          simp only at hcut
          subst hcut
          rfl
        generalize min p z = m at h3 htk2
        simp [hds, h2, h3, h4]
        exact ⟨.nils, [], by rw [htk2]; rfl, .nils, by rw [htk2]; rfl, Nat.zero_le _, hk⟩
      · simp
        repeat refine Does.seq ?_
        refine Does.region ?_
        rw [hcut] at htk
        simp only [S.len] at htk
        by_cases hzn : z < s.n
        · rw [if_pos hzn] at htk h5
          have hge : (0 : Int) ≤ (z : Int) := by omega
          simp [h5, vbin_geq]
          repeat refine Does.seq ?_
          refine Does.condT (by simp) ?_
          repeat refine Does.seq ?_
          refine Does.region ?_
          simp [h5]
          refine Does.ret ?_
          simp [hds]
          exact ⟨.nils, [], by rw [htk]; rfl, .nils, by rw [htk]; rfl, Nat.zero_le _, hk⟩
        · rw [if_neg hzn] at htk h5
          simp [h5, vbin_geq]
          repeat refine Does.seq ?_
          refine Does.condF (by simp) ?_
          refine Does.skip ?_
          simp
          repeat refine Does.seq ?_
          refine Does.region ?_
          simp [h6, f2, hcu.l2]
          refine Does.ret ?_
          simp [hds]
          exact ⟨out, ts, by rw [htk]; rfl, hot.weaken (Nat.le_succ _), by rw [htk], by simpa using hts, hk⟩
    case loop =>
      refine Does.block (Does.up s.n (fun a fr st' => Keep st st' ∧ st.ctr + 1 ≤ st'.ctr ∧ fr.ds = [] ∧ fr.gl = gl ∧ Fr.at fr 0 = .str s ∧ Fr.at fr 5 = .int .i64 (if z < s.n then (z : Int) else -1) ∧ Fr.at fr 6 = .ptr st.ctr 0 ∧ a ≤ s.n ∧
        ∃ out ts, Cu st' st.ctr s a out ∧ Ot (st.ctr + 1) st' out ts ∧ ts.length ≤ a ∧ cutL s.toList 0 = (ts.map Tk.tok ++ (cutL (s.toList.drop a) a).1, (cutL (s.toList.drop a) a).2)) 0 ?init ?bound ?step)
      case init => exact ⟨hkp0, hct0, by simp, by simp, by simp, by simp, by simp, Nat.zero_le _, .nils, [], hcu0, .nils, by simp, by simp⟩
      case bound => exact fun i fr st' h => h.2.2.2.2.2.2.2.1
      case step =>
        rintro a fr st' ⟨hk, hct, hds, hg, h0, h5, h6, han, out, ts, hcu, hot, hts, hcut⟩
        repeat refine Does.seq ?_
        refine Does.region ?_
        by_cases hlt : a < s.n
        · have hlt' : (a : Int) < (s.n : Int) := by omega
          have hbr := s.drop_at hlt
          have hrl : (s.toList.drop (a + 1)).length + 1 = s.n - a := by simp; omega
          rw [cutL_at hbr] at hcut
          obtain ⟨k1, k2, k3⟩ := stepL_len (UInt8.ofNat (s.at a)) (s.toList.drop (a + 1))
          simp [h0, h6, f1, hcu.l1, hlen, vbin_lss, hlt']
          repeat refine Does.seq ?_
          refine Does.condT (by simp) ?_
          refine Does.skip ?_
          simp
          refine Does.block ?_
          repeat refine Does.seq ?_
          refine Does.region ?_
          obtain ⟨v, st2, hcall, x, ok, rfl, hct2, hfm2, hst2⟩ := cut_ok gl hgl st' (st.ctr + 1) st.ctr s a out ts hcu (Nat.lt_succ_self _) hct hot hlt (by omega) (by omega) _ _ hbr
          have hcall := ihCall_W hcall
          have hk2 : Keep st st2 := ⟨by have := hk.ctr; omega, fun i hi => by rw [hfm2 i (by omega) (by omega), hk.box i hi]⟩
          simp [h6, hg, vcall_callable hk17, hcall]
          clear hcall
          repeat refine Does.seq ?_
          refine Does.region ?_
          generalize hstp : stepL (UInt8.ofNat (s.at a)) (s.toList.drop (a + 1)) = stp at hst2 hcut k1 k2 k3
          cases stp with
          | bad n =>
            obtain ⟨rfl, rfl⟩ := hst2
            have hn1 := k3 n rfl
            simp
            repeat refine Does.seq ?_
            refine Does.condT (by simp) ?_
            repeat refine Does.seq ?_
            refine Does.region ?_
            by_cases hzn : z < s.n
            · rw [if_pos hzn] at h5
              have hmin := vmin (P := Tryd.prog) (a + n) z
              simp [h5, vbin_geq]
              repeat refine Does.seq ?_
              refine Does.condT (by simp) ?_
              refine Does.region ?_
              simp at hmin
              simp [h5, hmin]
              repeat refine Does.seq ?_
              refine Does.region ?_
              simp
              refine Does.ret ?_
              simp only [andThen, inBlock]
              refine ⟨hk2, by simp [hds], .inl ⟨trivial, a + n, by simp, ?_, by simp, ?_⟩⟩
              · simp
              · rw [hcut]
            · rw [if_neg hzn] at h5
              simp [h5, vbin_geq]
              repeat refine Does.seq ?_
              refine Does.condF (by simp) ?_
              refine Does.skip ?_
              simp
              repeat refine Does.seq ?_
              refine Does.region ?_
              simp
              refine Does.ret ?_
              simp only [andThen, inBlock]
              refine ⟨hk2, by simp [hds], .inl ⟨trivial, a + n, by simp, ?_, by simp, ?_⟩⟩
              · have hm : min (a + n) z = a + n := by omega
                rw [hm]; simp
              · rw [hcut]
          | gap n =>
            obtain ⟨rfl, out', hcu', hot'⟩ := hst2
            have hn1 := k1 n rfl
            simp
            repeat refine Does.seq ?_
            refine Does.condF (by simp) ?_
            refine Does.skip ?_
            simp
            exact ⟨a + n, by omega, hk2, by omega, hds, hg, h0, h5, h6, by omega, out', hcu', ts, hot', by omega, hcut⟩
          | tok k n =>
            obtain ⟨rfl, out', hcu', hot'⟩ := hst2
            have hn1 := k2 k n rfl
            simp
            repeat refine Does.seq ?_
            refine Does.condF (by simp) ?_
            refine Does.skip ?_
            simp
            refine ⟨a + n, by omega, hk2, by omega, hds, hg, h0, h5, h6, by omega, out', hcu', ts ++ [⟨k, s.cut a (a + n), a⟩], hot', by simp; omega, ?_⟩
            rw [hcut]
            simp only [List.map_append, List.map_cons, List.map_nil, List.append_assoc, List.cons_append, List.nil_append]
            have : (⟨k, s.cut a (a + n), a⟩ : Tk).tok = ⟨k, (UInt8.ofNat (s.at a) :: s.toList.drop (a + 1)).take n, a⟩ := by
              simp only [Tk.tok]
              rw [S.toList_cut s (by omega) (by omega), hbr, show a + n - a = n by omega]
            rw [this]
        · have hlt' : ¬ (a : Int) < (s.n : Int) := by omega
          simp [h0, h6, f1, hcu.l1, hlen, vbin_lss, hlt']
          repeat refine Does.seq ?_
          refine Does.condF (by simp) ?_
          refine Does.exit ?_
          have han' : a = s.n := by omega
          subst han'
          have hdn : s.toList.drop s.n = [] := by rw [List.drop_eq_nil_iff]; simp
          rw [hdn] at hcut
          simp only [cutL, List.append_nil] at hcut
          simp only [andThen, inBlock, if_true]
          exact ⟨hk, by simp [hds], .inr ⟨trivial, by simp [h5], by simp [h6], out, hcu, ts, hot, hts, hcut⟩⟩
end Go.Vm

namespace Go.Vm
open Go Go.Proofs Go.Lx
attribute [local simp] Oks xOps vwanted isDefer vop kindOf vpure ev evs toV andThen inBlock atTo_some Fr.dsTo Fr.glTo Fr.toNone initFr_at initFr_ds initFr_gl veff traverse tupled vresult V.undef evOpt xDraw xStep

/-- append(x, a token) outside a draw -/
theorem Ot.app1 {lo : Nat} {st : St} {x : V} {l : List Tk} (hlo : lo ≤ st.ctr) (hx : Ot lo st x l) (hl : l.length < 900000) (e : Tk) :
    ∃ z st', vappend Tryd.prog { ctr := st.ctr + 1, box := st.box.put st.ctr (.cells [.int .u8 (e.k : Int), .str e.t, .int .i64 (e.p : Int)] 31 true (some 0)) } 25 x (.ms st.ctr 0 1 3 (some 1)) = some (z, st') ∧ Ot lo st' z (l ++ [e]) ∧ st.ctr ≤ st'.ctr ∧ (∀ i, i < lo → st'.box.get i = st.box.get i) := by
  have hk1 : Keep st { ctr := st.ctr + 1, box := st.box.put st.ctr (.cells [.int .u8 (e.k : Int), .str e.t, .int .i64 (e.p : Int)] 31 true (some 0)) } := (Keep.refl st).new _
  obtain ⟨z, st2, hap, hoz, hctr, hbox⟩ := Ot.app (m := [e]) (y := .ms st.ctr 0 1 3 (some 1)) (Nat.le_trans hlo hk1.ctr) (hx.keep hk1) (src_one (x := e) (fl := true) (by simp [Tr.get_put, Tk.cells]) _) (by simp; omega) (by simp)
  refine ⟨z, st2, hap, hoz, Nat.le_trans hk1.ctr hctr, fun i hi => ?_⟩
  rw [hbox i hi, hk1.box i (by omega)]

def zeroAt (l : List UInt8) (k : Nat) : Nat := k + zeroL (l.drop k)
theorem zeroAt_step {l : List UInt8} {k : Nat} {b : UInt8} (h : l[k]? = some b) : zeroAt l k = if b = 0 then k else zeroAt l (k + 1) := by
  have hk : k < l.length := by
    rcases Nat.lt_or_ge k l.length with h1 | h1
    · exact h1
    · rw [List.getElem?_eq_none h1] at h; cases h
  have hd : l.drop k = b :: l.drop (k + 1) := by
    rw [List.drop_eq_getElem_cons hk]
    rw [List.getElem?_eq_getElem hk] at h
    rw [Option.some.inj h]
  unfold zeroAt zeroL
  rw [hd]
  by_cases hb : b = 0
  · subst hb; simp
  · rw [if_neg hb, List.takeWhile_cons_of_pos (by simp [hb])]
    simp; omega

theorem eolL_step {l : List UInt8} {k : Nat} {b : UInt8} {r : List UInt8} (h : l.drop k = b :: r) : eolL (l.drop k) = if b = 10 then 0 else eolL (l.drop (k + 1)) + 1 := by
  have hd : l.drop (k + 1) = r := by rw [← List.drop_drop, h]; rfl
  rw [hd, h]
  unfold eolL
  by_cases hb : b = 10
  · subst hb; simp
  · rw [if_neg hb, List.takeWhile_cons_of_pos (by simp [hb])]
    simp

def BadR (l : List UInt8) (fr : Fr) : Prop := ∃ p, Fr.at fr 2 = .nils ∧ Fr.at fr 3 = .int .i64 ((min p (zeroL l) : Nat) : Int) ∧ Fr.at fr 4 = .int .i64 63 ∧ (cutL l 0).2 = some p

/-- the head of the great loop -/
def RefI (gl : Gl) (st : St) (s : S) (a : Nat) (fr : Fr) (st' : St) : Prop :=
  fr.ds = [] ∧ fr.gl = gl ∧ Fr.at fr 0 = .str s ∧ Fr.at fr 5 = .int .i64 (zeroL s.toList : Int) ∧ Keep st st' ∧ a ≤ s.n ∧ Fr.at fr 8 = .int .i64 (a : Int) ∧
    ∃ out ts, Fr.at fr 7 = out ∧ Ot st.ctr st' out ts ∧ ts.length ≤ a ∧ cutL s.toList 0 = (ts.map Tk.tok ++ (cutL (s.toList.drop a) a).1, (cutL (s.toList.drop a) a).2)

theorem pre_take' {o l : List UInt8} (h : o.isPrefixOf l = true) : l.take o.length = o := (List.prefix_iff_eq_take.1 (List.isPrefixOf_iff_prefix.1 h)).symm

theorem store_tok {st : St} {id : Nat} {a b c x y z : V} (hb : st.box.get id = some (.cells [a, b, c] 31 true (some 0))) (hx : oneC x = true) (hy : oneC y = true) (hz : oneC z = true) :
    vstore Tryd.prog st 31 (.ptr id 0) (.agg [x, y, z]) = some { st with box := st.box.put id (.cells [x, y, z] 31 true (some 0)) } := by
  simp only [vstore, z31, hb, V.cells]
  simp [hx, hy, hz, fzOk, over]
  rfl
theorem load_tok {st : St} {id : Nat} {a b c : V} (hb : st.box.get id = some (.cells [a, b, c] 31 true (some 0))) : vload Tryd.prog st 31 (.ptr id 0) = some (.agg [a, b, c]) := by
  simp only [vload, hb, vpart, a31, z31]
  rfl
theorem tfield0 (id : Nat) : vfieldAddr Tryd.prog 31 (.ptr id 0) 0 = some (.ptr id 0) := by kernel_rfl
theorem tfield1 (id : Nat) : vfieldAddr Tryd.prog 31 (.ptr id 0) 1 = some (.ptr id 1) := by kernel_rfl
theorem z5 : sizeT Tryd.prog 5 = some 1 := by kernel_rfl
theorem zs31 : zeroT Tryd.prog 31 = some (.agg [.int .u8 0, .str ⟨0, 0⟩, .int .i64 0]) := by kernel_rfl

variable [Memo] [NL]

set_option maxHeartbeats 2000000 in
theorem reftokens_ok (gl : Gl) (st : St) (s : S) (hn : s.n < 800000) :
    ∃ v st', W Tryd.prog (.call gl 12 [.str s]) st = .call (.val v st') ∧ TokR s.toList st v st' := by
  have hk15 : callable Tryd.prog 15 = true := by kernel_rfl
  have hk18 : callable Tryd.prog 18 = true := by kernel_rfl
  have hk19 : callable Tryd.prog 19 = true := by kernel_rfl
  have hlen := vlen_str Tryd.underlying9 (s := s)
  refine call_ex (NL.no _ rfl _ _) Tryd.func12 rfl (by kernel_rfl) ?_
  repeat refine Does.seq ?_
  refine Does.region ?_
  simp
  repeat refine Does.seq ?_
  refine Does.region ?_
  by_cases hlong : 16384 < s.n
  · have hlong' : (16384 : Int) < (s.n : Int) := by omega
    have htk : tokL s.toList = ([], 0, 40) := by unfold tokL; rw [if_pos (by simp; omega)]
    simp [hlen, vbin_gtr, hlong']
    repeat refine Does.seq ?_
    refine Does.condT (by simp) ?_
    repeat refine Does.seq ?_
    refine Does.region ?_
    simp
    refine Does.ret ?_
    simp
    exact ⟨.nils, [], by rw [htk]; rfl, .nils, by rw [htk]; rfl, Nat.zero_le _, .refl st⟩
  · have hlong' : ¬ (16384 : Int) < (s.n : Int) := by omega
    have htk : tokL s.toList = match cutL s.toList 0 with
      | (_, some e) => ([], min e (zeroL s.toList), 63)
      | (ts, none) => if zeroL s.toList < s.toList.length then ([], zeroL s.toList, 63) else (ts, 0, 0) := by
      unfold tokL; rw [if_neg (by simp; omega)]; rfl
    simp [hlen, vbin_gtr, hlong']
    repeat refine Does.seq ?_
    refine Does.condF (by simp) ?_
    refine Does.skip ?_
    simp
    repeat refine Does.seq ?_
    refine Does.region ?_
    simp [hlen]
    repeat refine Does.seq ?_
    refine Does.region ?_
    have wm : ∀ k : Nat, k < 2000000 → IntKind.i64.wrap ((k : Int) - 1) = (k : Int) - 1 := fun k h => wrap_i64 (by omega) (by omega)
    have wmn := wm s.n (by omega)
    simp [hlen, vbin_sub, wmn]
    refine Does.mono (Q := fun e fr' st' => e = AE.normal ∧ st' = st ∧ fr'.ds = [] ∧ fr'.gl = gl ∧ Fr.at fr' 0 = .str s ∧ Fr.at fr' 5 = .int .i64 (zeroL s.toList : Int)) ?zloop ?ztail
    case zloop =>
      refine Does.block (Does.inv (fun k fr st' => st' = st ∧ fr.ds = [] ∧ fr.gl = gl ∧ Fr.at fr 0 = .str s ∧ Fr.at fr 5 = .int .i64 (zeroAt s.toList k : Int) ∧ Fr.at fr 6 = .int .i64 ((k : Int) - 1) ∧ k ≤ s.n) s.n ?zinit ?zstep)
      case zinit =>
        have hdn : s.toList.drop s.n = [] := by rw [List.drop_eq_nil_iff]; simp
        have : zeroAt s.toList s.n = s.n := by unfold zeroAt; rw [hdn]; rfl
        exact ⟨rfl, by simp, by simp, by simp, by simp [this], by simp, Nat.le_refl _⟩
      case zstep =>
        rintro k fr st' ⟨rfl, hds, hg, h0, h5, h6, hks⟩
        repeat refine Does.seq ?_
        refine Does.region ?_
        cases k with
        | zero =>
          simp [h6, vbin_geq]
          repeat refine Does.seq ?_
          refine Does.condF (by simp) ?_
          refine Does.exit ?_
          simp [hds, hg, h0, h5, zeroAt]
        | succ k =>
          have h6' : Fr.at fr 6 = .int .i64 (k : Int) := by rw [h6]; congr 1; omega
          have hge : (0 : Int) ≤ (k : Int) := by omega
          have hix := vindex_str (P := Tryd.prog) (k := .i64) Tryd.underlying9 (show k < s.n by omega)
          have hak := s.at_lt k
          have hza := zeroAt_step (s.toList_at (show k < s.n by omega))
          have wk := wm k (by omega)
          simp [h6', vbin_geq]
          repeat refine Does.seq ?_
          refine Does.condT (by simp) ?_
          refine Does.skip ?_
          simp
          repeat refine Does.seq ?_
          refine Does.block ?_
          repeat refine Does.seq ?_
          refine Does.region ?_
          by_cases hz : s.at k = 0
          · have hz' : (s.at k : Int) = 0 := by omega
            rw [if_pos (by rw [hz]; rfl)] at hza
            simp [h0, h6', hix, vbin_eql, hz']
            repeat refine Does.seq ?_
            refine Does.condT (by simp) ?_
            refine Does.region ?_
            simp [h6']
            refine Does.region ?_
            simp [h6', vbin_sub, wk]
            exact ⟨k, by omega, hds, hg, h0, by rw [hza], rfl, by omega⟩
          · have hz' : ¬ (s.at k : Int) = 0 := by omega
            rw [if_neg (show ¬ UInt8.ofNat (s.at k) = 0 from fun h => hz ((byte_eq hak (by decide)).1 h))] at hza
            simp [h0, h6', hix, vbin_eql, hz']
            repeat refine Does.seq ?_
            refine Does.condF (by simp [hz]) ?_
            refine Does.skip ?_
            simp
            refine Does.region ?_
            simp [h6', vbin_sub, wk]
            exact ⟨k, by omega, hds, hg, h0, by rw [h5, hza], rfl, by omega⟩
    case ztail =>
    rintro e fr st' ⟨rfl, hst', hds, hg, h0, h5⟩
    rw [hst']
    clear hst' wmn
    simp
    repeat refine Does.seq ?_
    refine Does.region ?_
    simp
    repeat refine Does.seq ?_
    refine Does.region ?_
    simp
    repeat refine Does.seq ?_
    refine Does.mono (Q := fun e fr' st' => Keep st st' ∧ fr'.ds = [] ∧ ((e = AE.ret ∧ BadR s.toList fr') ∨
      (e = AE.normal ∧ RefI gl st s s.n fr' st'))) ?loop ?tail
    case tail =>
      rintro e fr' st' ⟨hk, hds, ⟨rfl, p, h2, h3, h4, hcut⟩ | ⟨rfl, _, _, h0, h5, _, _, h8, out, ts, h7, hot, hts, hcut⟩⟩
      · have htk2 : tokL s.toList = ([], min p (zeroL s.toList), 63) := by
          rw [htk]
          generalize hcc : cutL s.toList 0 = cc at hcut
          obtain ⟨c1, c2⟩ := cc
          simp only at hcut
          subst hcut
          rfl
        generalize min p (zeroL s.toList) = m at h3 htk2
        simp [hds, h2, h3, h4]
        exact ⟨.nils, [], by rw [htk2]; rfl, .nils, by rw [htk2]; rfl, Nat.zero_le _, hk⟩
      · have hdn : s.toList.drop s.n = [] := by rw [List.drop_eq_nil_iff]; simp
        rw [hdn] at hcut
        simp only [cutL, List.append_nil] at hcut
        rw [hcut] at htk
        simp only [S.len] at htk
        simp
        repeat refine Does.seq ?_
        refine Does.region ?_
        by_cases hzn : zeroL s.toList < s.n
        · have hzn' : (zeroL s.toList : Int) < (s.n : Int) := by omega
          rw [if_pos hzn] at htk
          simp [h0, h5, hlen, vbin_lss, hzn']
          repeat refine Does.seq ?_
          refine Does.condT (by simp) ?_
          repeat refine Does.seq ?_
          refine Does.region ?_
          simp [h5]
          refine Does.ret ?_
          simp [hds]
          exact ⟨.nils, [], by rw [htk]; rfl, .nils, by rw [htk]; rfl, Nat.zero_le _, hk⟩
        · have hzn' : ¬ (zeroL s.toList : Int) < (s.n : Int) := by omega
          rw [if_neg hzn] at htk
          simp [h0, h5, hlen, vbin_lss, hzn']
          repeat refine Does.seq ?_
          refine Does.condF (by simp) ?_
          refine Does.skip ?_
          simp
          repeat refine Does.seq ?_
          refine Does.region ?_
          simp [h7]
          refine Does.ret ?_
          simp [hds]
          exact ⟨out, ts, by rw [htk]; rfl, hot, by rw [htk], by simpa using hts, hk⟩
    case loop =>
      refine Does.block (Does.up s.n (fun a fr st' => RefI gl st s a fr st') 0 ?init ?bound ?step)
      case init => exact ⟨by simp [hds], by simp [hg], by simp [h0], by simp [h5], .refl st, Nat.zero_le _, by simp, .nils, [], by simp, .nils, by simp, by simp⟩
      case bound => exact fun i fr st' h => h.2.2.2.2.2.1
      case step =>
        clear hds hg h0 h5
        rintro a fr st' ⟨hds, hg, h0, h5, hk, han, h8, out, ts, h7, hot, hts, hcut⟩
        repeat refine Does.seq ?_
        refine Does.region ?_
        by_cases hlt : a < s.n
        · have hlt' : (a : Int) < (s.n : Int) := by omega
          have hbr := s.drop_at hlt
          have hab := s.at_lt a
          have hix := vindex_str (P := Tryd.prog) (k := .i64) Tryd.underlying9 hlt
          have hrl : (s.toList.drop (a + 1)).length + 1 = s.n - a := by simp; omega
          have hcut0 := hcut
          rw [cutL_at hbr] at hcut
          have hcl : st.ctr ≤ st'.ctr := hk.ctr
          generalize hbb : UInt8.ofNat (s.at a) = b at hcut hbr
          generalize hrr : s.toList.drop (a + 1) = r at hcut hbr hrl
          obtain ⟨k1, k2, k3⟩ := stepL_len b r
          have gapd : ∀ (n : Nat) (fr' : Fr) (st2 : St), stepL b r = .gap n → st2 = st' → fr'.ds = [] → fr'.gl = gl → Fr.at fr' 0 = .str s → Fr.at fr' 5 = .int .i64 (zeroL s.toList : Int) → Fr.at fr' 7 = out → Fr.at fr' 8 = .int .i64 ((a + n : Nat) : Int) →
              ∃ j, a < j ∧ RefI gl st s j fr' st2 := by
            rintro n fr' st2 hs rfl e1 e2 e3 e4 e5 e6
            have := k1 n hs
            rw [hs] at hcut
            exact ⟨a + n, by omega, e1, e2, e3, e4, hk, by omega, e6, out, ts, e5, hot, by omega, hcut⟩
          have tokd : ∀ (k n : Nat) (t : S) (z : V) (fr' : Fr) (st2 : St), stepL b r = .tok k n → t.toList = (b :: r).take n → Keep st st2 → Ot st.ctr st2 z (ts ++ [⟨k, t, a⟩]) → fr'.ds = [] → fr'.gl = gl → Fr.at fr' 0 = .str s → Fr.at fr' 5 = .int .i64 (zeroL s.toList : Int) → Fr.at fr' 7 = z → Fr.at fr' 8 = .int .i64 ((a + n : Nat) : Int) →
              ∃ j, a < j ∧ RefI gl st s j fr' st2 := by
            rintro k n t z fr' st2 hs ht hk2 hot2 e1 e2 e3 e4 e5 e6
            have := k2 k n hs
            rw [hs] at hcut
            refine ⟨a + n, by omega, e1, e2, e3, e4, hk2, by omega, e6, z, _, e5, hot2, by simp; omega, ?_⟩
            rw [hcut]
            have : (⟨k, t, a⟩ : Tk).tok = ⟨k, (b :: r).take n, a⟩ := by simp only [Tk.tok]; rw [ht]
            simp only [List.map_append, List.map_cons, List.map_nil, List.append_assoc, List.cons_append, List.nil_append, this]
          have wadd : ∀ n : Nat, n < 2000000 → IntKind.i64.wrap ((a : Int) + (n : Int)) = ((a + n : Nat) : Int) := fun n h => wrap_add (by omega)
          simp [h0, h8, hlen, vbin_lss, hlt']
          repeat refine Does.seq ?_
          refine Does.condT (by simp) ?_
          refine Does.skip ?_
          simp
          refine Does.block ?_
          repeat refine Does.seq ?_
          refine Does.region ?_
          by_cases hs1 : s.at a = 32 ∨ s.at a = 9
          · have hsb : b = 32 ∨ b = 9 := by
              rw [← hbb]
              rcases hs1 with h | h <;> rw [h]
              · exact .inl rfl
              · exact .inr rfl
            have hstep : stepL b r = .gap 1 := by simp [stepL, hsb]
            have w1 := wadd 1 (by omega)
            simp at w1
            have gd := gapd 1
            rcases hs1 with h | h
            all_goals
              have h' : (s.at a : Int) = _ := congrArg _ h
              simp [h0, h8, hix, vbin_eql, h']
              repeat refine Does.seq ?_
              refine Does.condT (by simp) ?_
              refine Does.region ?_
              simp [h8, vbin_add, w1]
              exact gd _ _ hstep rfl (by simp [hds]) (by simp [hg]) (by simp [h0]) (by simp [h5]) (by simp [h7]) (by simp)
          · have hsb : ¬ (b = 32 ∨ b = 9) := by
              rw [← hbb]
              rintro (h | h)
              · exact hs1 (.inl ((byte_eq hab (by decide)).1 h))
              · exact hs1 (.inr ((byte_eq hab (by decide)).1 h))
            have g1 : ¬ (s.at a : Int) = 32 := by omega
            have g2 : ¬ (s.at a : Int) = 9 := by omega
            simp [h0, h8, hix, vbin_eql, g1, g2]
            repeat refine Does.seq ?_
            refine Does.condF (by simp) ?_
            repeat refine Does.seq ?_
            refine Does.region ?_
            have hpre := ihCall_W (is_ok gl st' s a (S.ofList [92, 10]) (by omega) (by omega) (by show 2 < 1000000; omega))
            rw [hbr, S.toList_ofList] at hpre
            generalize hp : [92, 10].isPrefixOf (b :: r) = p at hpre
            simp [h0, h8, hg, vcall_callable hk15, hpre]
            repeat refine Does.seq ?_
            cases p with
            | true =>
              have hlen2 := (List.isPrefixOf_iff_prefix.1 hp).length_le
              simp at hlen2
              have hstep : stepL b r = .gap 2 := by rw [stepL, if_neg hsb, if_pos hp]
              have w2 := wadd 2 (by omega)
              simp at w2
              refine Does.condT (by simp) ?_
              refine Does.region ?_
              simp [h8, vbin_add, w2]
              exact gapd 2 _ _ hstep rfl (by simp [hds]) (by simp [hg]) (by simp [h0]) (by simp [h5]) (by simp [h7]) (by simp)
            | false =>
              have hp' : ¬ [92, 10].isPrefixOf (b :: r) = true := by rw [hp]; simp
              refine Does.condF (by simp) ?_
              repeat refine Does.seq ?_
              refine Does.region ?_
              by_cases hs3 : s.at a = 35
              · have hs3' : (s.at a : Int) = 35 := by omega
                have hb35 : b = 35 := by rw [← hbb, hs3]; rfl
                have hstep : stepL b r = .gap (eolL (b :: r)) := by rw [stepL, if_neg hsb, if_neg hp', if_pos hb35]
                simp [h0, h8, hix, vbin_eql, hs3']
                repeat refine Does.seq ?_
                refine Does.condT (by simp) ?_
                refine Does.block (Does.up s.n (fun k fr' st2 => st2 = st' ∧ fr'.ds = [] ∧ fr'.gl = gl ∧ Fr.at fr' 0 = .str s ∧ Fr.at fr' 5 = .int .i64 (zeroL s.toList : Int) ∧ Fr.at fr' 7 = out ∧ Fr.at fr' 8 = .int .i64 (k : Int) ∧ k ≤ s.n ∧ k + eolL (s.toList.drop k) = a + eolL (b :: r)) a ?einit ?ebound ?estep)
                case einit => exact ⟨rfl, by simp [hds], by simp [hg], by simp [h0], by simp [h5], by simp [h7], by simp [h8], han, by rw [hbr]⟩
                case ebound => exact fun i fr st' h => h.2.2.2.2.2.2.2.1
                case estep =>
                  rintro k fr2 st2 ⟨rfl, e1, e2, e3, e4, e5, e6, hkn, hE⟩
                  repeat refine Does.seq ?_
                  refine Does.region ?_
                  by_cases hkl : k < s.n
                  · have hkl' : (k : Int) < (s.n : Int) := by omega
                    have hkx := vindex_str (P := Tryd.prog) (k := .i64) Tryd.underlying9 hkl
                    have hak := s.at_lt k
                    rw [eolL_step (s.drop_at hkl)] at hE
                    by_cases hk10 : s.at k = 10
                    · have hk10' : (s.at k : Int) = 10 := by omega
                      rw [if_pos (by rw [hk10]; rfl)] at hE
                      simp [e3, e6, hlen, vbin_lss, vbin_neq, hkl', hkx, hk10']
                      repeat refine Does.seq ?_
                      refine Does.condF (by simp) ?_
                      refine Does.exit ?_
                      simp
                      exact gapd _ _ _ hstep rfl (by simp [e1]) (by simp [e2]) (by simp [e3]) (by simp [e4]) (by simp [e5]) (by simp [e6]; omega)
                    · have hk10' : ¬ (s.at k : Int) = 10 := by omega
                      rw [if_neg (show ¬ UInt8.ofNat (s.at k) = 10 from fun h => hk10 ((byte_eq hak (by decide)).1 h))] at hE
                      have w3 := wrap1 (i := k) (by omega)
                      simp at w3
                      simp [e3, e6, hlen, vbin_lss, vbin_neq, hkl', hkx, hk10']
                      repeat refine Does.seq ?_
                      refine Does.condT (by simp) ?_
                      refine Does.skip ?_
                      simp
                      refine Does.block ?_
                      refine Does.region ?_
                      simp [e6, vbin_add, w3]
                      exact ⟨k + 1, by omega, e1, e2, e3, e4, e5, by simp, by omega, by omega⟩
                  · have hkl' : ¬ (k : Int) < (s.n : Int) := by omega
                    have hdn : s.toList.drop k = [] := by rw [List.drop_eq_nil_iff]; simp; omega
                    rw [hdn] at hE
                    simp only [eolL, List.takeWhile_nil, List.length_nil] at hE
                    simp [e3, e6, hlen, vbin_lss, hkl']
                    repeat refine Does.seq ?_
                    refine Does.condF (by simp) ?_
                    refine Does.exit ?_
                    simp
                    exact gapd _ _ _ hstep rfl (by simp [e1]) (by simp [e2]) (by simp [e3]) (by simp [e4]) (by simp [e5]) (by simp [e6, eolL] at hE ⊢; omega)
              · have hs3' : ¬ (s.at a : Int) = 35 := by omega
                have hb35 : ¬ b = 35 := by rw [← hbb]; exact fun h => hs3 ((byte_eq hab (by decide)).1 h)
                have hstep : stepL b r = if b = 10 then .tok 1 1 else match opIx (b :: r) with
                  | some _ => .tok 2 (opTx (b :: r)).length
                  | none =>
                    match wordL (b :: r) with
                    | (n, false) => .bad n
                    | (n, true) => .tok (kindL ((b :: r).take n)) n := by
                  rw [stepL, if_neg hsb, if_neg hp', if_neg hb35]
                  rfl
                simp [h0, h8, hix, vbin_eql, hs3']
                repeat refine Does.seq ?_
                refine Does.condF (by simp) ?_
                repeat refine Does.seq ?_
                refine Does.region ?_
                by_cases h10 : s.at a = 10
                · have h10' : (s.at a : Int) = 10 := by omega
                  have hb10 : b = 10 := by rw [← hbb, h10]; rfl
                  rw [if_pos hb10] at hstep
                  simp [h0, h8, hix, vbin_eql, h10']
                  repeat refine Does.seq ?_
                  refine Does.condT (by simp) ?_
                  repeat refine Does.seq ?_
                  refine Does.region ?_
                  obtain ⟨z, st2, hap, hoz, hct2, hfm2⟩ := Ot.app1 hcl hot (by omega) ⟨1, S.ofList [10], a⟩
                  rw [show (((1 : Nat)) : Int) = 1 from rfl] at hap
                  have hbt := build_tok 1 a (S.ofList [10])
                  have hbs := build_toks 1 a (S.ofList [10])
                  have o1 : ([.int .u8 1, .str (S.ofList [10]), .int .i64 (a : Int)] : List V).all oneC = true := rfl
                  have hk2 : Keep st st2 := ⟨by have := hk.ctr; omega, fun i hi => by rw [hfm2 i hi, hk.box i hi]⟩
                  simp [h7, h8, evParts, hbt, valloc, hbs, o1, mkRef, vact, u25, hap]
                  refine Does.region ?_
                  have w1 := wadd 1 (by omega)
                  simp at w1
                  simp [h8, vbin_add, w1]
                  exact tokd 1 1 (S.ofList [10]) z _ _ hstep (by rw [S.toList_ofList, hb10]; rfl) hk2 hoz (by simp [hds]) (by simp [hg]) (by simp [h0]) (by simp [h5]) (by simp) (by simp)
                · have h10' : ¬ (s.at a : Int) = 10 := by omega
                  have hb10 : ¬ b = 10 := by rw [← hbb]; exact fun h => h10 ((byte_eq hab (by decide)).1 h)
                  rw [if_neg hb10] at hstep
                  simp [h0, h8, hix, vbin_eql, h10']
                  repeat refine Does.seq ?_
                  refine Does.condF (by simp) ?_
                  repeat refine Does.seq ?_
                  refine Does.region ?_
                  obtain ⟨v, st2, hcall, o, rfl, ho, hk2⟩ := op_ok gl st' s a (by omega) (by omega)
                  have hcall := ihCall_W hcall
                  rw [hbr] at ho
                  have hsn := same_nil o
                  rw [ho] at hsn
                  have hkk := hk.trans hk2
                  have hot2 := hot.keep hk2
                  cases hop : opIx (b :: r) with
                  | some j =>
                    rw [hop] at hstep
                    simp only at hstep
                    obtain ⟨_, _, hpre', hl1, hl2, hl3⟩ := opIx_len hop
                    have hno : ¬ opTx (b :: r) = [] := by rw [opTx_nil, hop]; simp
                    simp [hno] at hsn
                    simp [h0, h8, hg, vcall_callable hk18, hcall, vbin_sneq, hsn]
                    repeat refine Does.seq ?_
                    refine Does.condT (by simp) ?_
                    repeat refine Does.seq ?_
                    refine Does.region ?_
                    obtain ⟨v, st3, hcall3, o3, rfl, ho3, hk3⟩ := op_ok gl st2 s a (by omega) (by omega)
                    have hcall3 := ihCall_W hcall3
                    rw [hbr] at ho3
                    have hot3 := hot2.keep hk3
                    have hkk3 := hkk.trans hk3
                    obtain ⟨z, st4, hap, hoz, hct4, hfm4⟩ := Ot.app1 hkk3.ctr hot3 (by omega) ⟨2, o3, a⟩
                    rw [show (((2 : Nat)) : Int) = 2 from rfl] at hap
                    have hbt := build_tok 2 a o3
                    have hbs := build_toks 2 a o3
                    have o1 : ([.int .u8 2, .str o3, .int .i64 (a : Int)] : List V).all oneC = true := rfl
                    have hk4 : Keep st st4 := ⟨by have := hkk3.ctr; omega, fun i hi => by rw [hfm4 i hi, hkk3.box i hi]⟩
                    simp [h0, h7, h8, hg, vcall_callable hk18, hcall3, evParts, hbt, valloc, hbs, o1, mkRef, vact, u25, hap]
                    refine Does.region ?_
                    obtain ⟨v, st5, hcall5, o5, rfl, ho5, hk5⟩ := op_ok gl st4 s a (by omega) (by omega)
                    have hcall5 := ihCall_W hcall5
                    rw [hbr] at ho5
                    have hl5 := vlen_str Tryd.underlying9 (s := o5)
                    rw [show o5.n = (opTx (b :: r)).length by rw [← S.len, ho5]] at hl5
                    have w5 := wadd (opTx (b :: r)).length (by omega)
                    simp [h0, h8, hg, vcall_callable hk18, hcall5, hl5, vbin_add, w5]
                    exact tokd 2 _ o3 z _ _ hstep (by rw [ho3, pre_take' hpre']) (hk4.trans hk5) (hoz.keep hk5) (by simp [hds]) (by simp [hg]) (by simp [h0]) (by simp [h5]) (by simp) (by simp)
                  | none =>
                    rw [hop] at hstep
                    simp only at hstep
                    have hno : opTx (b :: r) = [] := by rw [opTx_nil, hop]
                    simp [hno] at hsn
                    simp [h0, h8, hg, vcall_callable hk18, hcall, vbin_sneq, hsn]
                    repeat refine Does.seq ?_
                    refine Does.condF (by simp) ?_
                    repeat refine Does.seq ?_
                    refine Does.region ?_
                    obtain ⟨v, st3, hcall3, rfl, hk3⟩ := refword_ok gl st2 s a (by omega) (by omega)
                    have hcall3 := ihCall_W hcall3
                    rw [hbr] at hcall3
                    have hwl := wordL_le (b :: r).length (b :: r) (Nat.le_refl _)
                    generalize hwd : wordL (b :: r) = wd at hcall3 hstep hwl
                    obtain ⟨n, ok⟩ := wd
                    simp only at hcall3 hwl
                    have hnl : a + n ≤ s.n := by have := hwl.1; simp at this; omega
                    have hot3 := hot2.keep hk3
                    have hkk3 := hkk.trans hk3
                    cases ok with
                    | false =>
                      simp at hcall3
                      simp [h0, h8, hg, vcall_callable hk19, hcall3]
                      repeat refine Does.seq ?_
                      refine Does.region ?_
                      have hge : (0 : Int) ≤ (a : Int) + (n : Int) := by omega
                      simp [vbin_geq, hge]
                      repeat refine Does.seq ?_
                      refine Does.condT (by simp) ?_
                      repeat refine Does.seq ?_
                      refine Does.region ?_
                      have hmin := vmin (P := Tryd.prog) (a + n) (zeroL s.toList)
                      generalize hmm : min (a + n) (zeroL s.toList) = mm at hmin
                      simp at hmin
                      simp [h5, hmin]
                      refine Does.ret ?_
                      simp only [andThen, inBlock]
                      refine ⟨hkk3, by simp [hds], .inl ⟨trivial, a + n, by simp, by simp [hmm], by simp, ?_⟩⟩
                      rw [hcut, hstep]
                    | true =>
                      simp at hcall3
                      simp [h0, h8, hg, vcall_callable hk19, hcall3]
                      repeat refine Does.seq ?_
                      refine Does.region ?_
                      simp [vbin_geq]
                      repeat refine Does.seq ?_
                      refine Does.condF (by simp) ?_
                      refine Does.skip ?_
                      simp
                      repeat refine Does.seq ?_
                      refine Does.region ?_
                      have hsl := vslice_lohi (P := Tryd.prog) Tryd.underlying9 (s := s) (lo := a) (hi := a + n) (by omega) hnl (k := .i64) (k' := .i64)
                      simp at hsl
                      have hcl2 : (s.cut a (a + n)).toList = (b :: r).take n := by
                        rw [S.toList_cut s (by omega) hnl, hbr, show a + n - a = n by omega]
                      generalize s.cut a (a + n) = t at hsl hcl2
                      have hbt := build_tok 3 a t
                      have hst1 := store_tok (st := { ctr := st3.ctr + 1, box := st3.box.put st3.ctr (.cells [.int .u8 0, .str ⟨0, 0⟩, .int .i64 0] 31 true (some 0)) }) (id := st3.ctr) (a := .int .u8 0) (b := .str ⟨0, 0⟩) (c := .int .i64 0) (x := .int .u8 3) (y := .str t) (z := .int .i64 (a : Int)) (by simp [Tr.get_put]) rfl rfl rfl
                      have o1 : ([.int .u8 0, .str ⟨0, 0⟩, .int .i64 0] : List V).all oneC = true := rfl
                      simp [h0, h8, hsl, evParts, hbt, valloc, zs31, V.cells, o1, oneC, mkRef, vact, hst1]
                      have hk4 : Keep st3 { ctr := st3.ctr + 1, box := (st3.box.put st3.ctr (.cells [.int .u8 0, .str ⟨0, 0⟩, .int .i64 0] 31 true (some 0))).put st3.ctr (.cells [.int .u8 3, .str t, .int .i64 (a : Int)] 31 true (some 0)) } :=
                        Keep.put (id := st3.ctr) ((Keep.refl st3).new _) (Nat.le_refl _) _
                      have hb4 : ({ ctr := st3.ctr + 1, box := (st3.box.put st3.ctr (.cells [.int .u8 0, .str ⟨0, 0⟩, .int .i64 0] 31 true (some 0))).put st3.ctr (.cells [.int .u8 3, .str t, .int .i64 (a : Int)] 31 true (some 0)) } : St).box.get st3.ctr = some (.cells [.int .u8 3, .str t, .int .i64 (a : Int)] 31 true (some 0)) := by simp [Tr.get_put]
                      have hc4 : ({ ctr := st3.ctr + 1, box := (st3.box.put st3.ctr (.cells [.int .u8 0, .str ⟨0, 0⟩, .int .i64 0] 31 true (some 0))).put st3.ctr (.cells [.int .u8 3, .str t, .int .i64 (a : Int)] 31 true (some 0)) } : St).ctr = st3.ctr + 1 := rfl
                      revert hk4 hb4 hc4
                      generalize ({ ctr := st3.ctr + 1, box := (st3.box.put st3.ctr (.cells [.int .u8 0, .str ⟨0, 0⟩, .int .i64 0] 31 true (some 0))).put st3.ctr (.cells [.int .u8 3, .str t, .int .i64 (a : Int)] 31 true (some 0)) } : St) = st4
                      intro hk4 hb4 hc4
                      have tf0 := tfield0 st3.ctr
                      have tf1 := tfield1 st3.ctr
                      have lt := vload_of (P := Tryd.prog) (off := 1) a9 z9 hb4 rfl
                      refine Does.seq ?_
                      refine Does.mono (Q := fun e fr' st' => e = AE.normal ∧ Keep st3 st' ∧ st3.ctr < st'.ctr ∧ st'.box.get st3.ctr = some (.cells [.int .u8 (kindL ((b :: r).take n) : Int), .str t, .int .i64 (a : Int)] 31 true (some 0)) ∧ fr'.ds = [] ∧ fr'.gl = gl ∧ Fr.at fr' 0 = .str s ∧ Fr.at fr' 5 = .int .i64 (zeroL s.toList : Int) ∧ Fr.at fr' 7 = out ∧ Fr.at fr' 8 = .int .i64 (a : Int) ∧ Fr.at fr' 9 = .int .i64 ((a : Int) + (n : Int)) ∧ Fr.at fr' 11 = .ptr st3.ctr 0) ?ka ?kb
                      case ka =>
                        have e1 : ∀ c : UInt8, t.same (S.ofList [c]) = decide ((b :: r).take n = [c]) := fun c => by
                          rw [S.same_eq, hcl2, S.toList_ofList, Bool.eq_iff_iff]; simp
                        have d1 := e1 33
                        have d2 := e1 123
                        have d3 := e1 125
                        have hset := vstore_one (P := Tryd.prog) (st := st4) (off := 0) (v := .int .u8 2) z5 hb4 (by show 0 < 3; decide) rfl
                        have hk5 : Keep st3 { st4 with box := st4.box.put st3.ctr (.cells ([V.int .u8 3, .str t, .int .i64 (a : Int)].set 0 (.int .u8 2)) 31 true (some 0)) } := hk4.put (Nat.le_refl _) _
                        simp only [List.set_cons_zero] at hset hk5
                        repeat refine Does.seq ?_
                        refine Does.region ?_
                        by_cases k1 : (b :: r).take n = [33]
                        · rw [k1, decide_eq_true rfl] at d1
                          have hkd : kindL ((b :: r).take n) = 2 := by rw [k1]; rfl
                          simp [tf1, lt, vbin_seql, d1]
                          repeat refine Does.seq ?_
                          refine Does.condT (by simp) ?_
                          refine Does.region ?_
                          simp [tf0, vact, hset, hkd, hds, hg, h0, h5, h7, h8, Tr.get_put]
                          exact ⟨hk5, by omega⟩
                        · rw [decide_eq_false k1] at d1
                          by_cases k2 : (b :: r).take n = [123]
                          · rw [k2, decide_eq_true rfl] at d2
                            have hkd : kindL ((b :: r).take n) = 2 := by rw [k2]; rfl
                            simp [tf1, lt, vbin_seql, d1, d2]
                            repeat refine Does.seq ?_
                            refine Does.condT (by simp) ?_
                            refine Does.region ?_
                            simp [tf0, vact, hset, hkd, hds, hg, h0, h5, h7, h8, Tr.get_put]
                            exact ⟨hk5, by omega⟩
                          · rw [decide_eq_false k2] at d2
                            by_cases k3 : (b :: r).take n = [125]
                            · rw [k3, decide_eq_true rfl] at d3
                              have hkd : kindL ((b :: r).take n) = 2 := by rw [k3]; rfl
                              simp [tf1, lt, vbin_seql, d1, d2, d3]
                              repeat refine Does.seq ?_
                              refine Does.condT (by simp) ?_
                              refine Does.region ?_
                              simp [tf0, vact, hset, hkd, hds, hg, h0, h5, h7, h8, Tr.get_put]
                              exact ⟨hk5, by omega⟩
                            · rw [decide_eq_false k3] at d3
                              have hkd : kindL ((b :: r).take n) = 3 := by simp [kindL, k1, k2, k3]
                              simp [tf1, lt, vbin_seql, d1, d2, d3]
                              repeat refine Does.seq ?_
                              refine Does.condF (by simp) ?_
                              refine Does.skip ?_
                              simp [hkd, hds, hg, h0, h5, h7, h8, hb4]
                              exact ⟨hk4, by omega⟩
                      case kb =>
                        rintro e fr' st5 ⟨rfl, hk5, hc5, hb5, hds, hg, h0, h5, h7, h8, h9, h11⟩
                        simp
                        repeat refine Does.seq ?_
                        refine Does.region ?_
                        have hkk5 := hkk3.trans hk5
                        have hot5 := hot3.keep hk5
                        obtain ⟨z, st6, hap, hoz, hct6, hfm6⟩ := Ot.app1 hkk5.ctr hot5 (by omega) ⟨kindL ((b :: r).take n), t, a⟩
                        have hbs := build_toks (kindL ((b :: r).take n)) a t
                        have o2 : ([.int .u8 (kindL ((b :: r).take n) : Int), .str t, .int .i64 (a : Int)] : List V).all oneC = true := rfl
                        have hk6 : Keep st st6 := ⟨by have := hkk5.ctr; omega, fun i hi => by rw [hfm6 i hi, hkk5.box i hi]⟩
                        have ll := load_tok hb5
                        generalize hkn : kindL ((b :: r).take n) = kn at hap hbs o2 ll hoz
                        simp [h7, h11, ll, evParts, valloc, hbs, o2, mkRef, vact, u25, hap]
                        refine Does.region ?_
                        simp [h9]
                        exact tokd kn n t z _ _ (by rw [hstep, ← hkn]) hcl2 hk6 hoz (by simp [hds]) (by simp [hg]) (by simp [h0]) (by simp [h5]) (by simp) (by simp)
        · have hlt' : ¬ (a : Int) < (s.n : Int) := by omega
          have han' : a = s.n := by omega
          subst han'
          simp [h0, h8, hlen, vbin_lss, hlt']
          repeat refine Does.seq ?_
          refine Does.condF (by simp) ?_
          refine Does.exit ?_
          simp only [andThen, inBlock, if_true]
          exact ⟨hk, by simp [hds], .inr ⟨trivial, by simp [hds], by simp [hg], by simp [h0], by simp [h5], hk, Nat.le_refl _, by simp [h8], out, ts, by simp [h7], hot, hts, hcut⟩⟩
end Go.Vm

namespace Go.Vm
open Go Go.Proofs Go.Lx
attribute [local simp] Oks xOps vwanted isDefer vop kindOf vpure ev evs toV andThen inBlock atTo_some Fr.dsTo Fr.glTo Fr.toNone initFr_at initFr_ds initFr_gl veff traverse tupled vresult V.undef evOpt xDraw xStep

theorem over_tok (e : Tk) : ∀ (l : List Tk) (i : Nat), i < l.length → over (toksV l) (i * 3) e.cells = toksV (l.set i e)
  | [], i, h => by simp at h
  | a :: l, 0, _ => by
    show over (a.cells ++ toksV l) 0 e.cells = e.cells ++ toksV l
    have h1 : e.cells.length = 3 := rfl
    have h2 : a.cells.length = 3 := rfl
    simp only [over, List.take_zero, List.nil_append, h1, Nat.zero_add]
    rw [List.drop_append_of_le_length (by rw [h2]; exact Nat.le_refl _), List.drop_of_length_le (by rw [h2]; exact Nat.le_refl _), List.nil_append]
  | a :: l, i + 1, h => by
    have ih := over_tok e l i (by simpa using h)
    show over (a.cells ++ toksV l) ((i + 1) * 3) e.cells = a.cells ++ toksV (l.set i e)
    rw [← ih]
    have h2 : a.cells.length = 3 := rfl
    simp only [over]
    have t1 : List.take ((i + 1) * 3) (a.cells ++ toksV l) = a.cells ++ List.take (i * 3) (toksV l) := by
      rw [show (i + 1) * 3 = a.cells.length + i * 3 by rw [h2]; omega, List.take_append]
      rw [List.take_of_length_le (by omega), Nat.add_sub_cancel_left]
    have t2 : List.drop ((i + 1) * 3 + e.cells.length) (a.cells ++ toksV l) = List.drop (i * 3 + e.cells.length) (toksV l) := by
      rw [show (i + 1) * 3 + e.cells.length = a.cells.length + (i * 3 + e.cells.length) by rw [h2]; omega, List.drop_append]
      rw [List.drop_of_length_le (by omega), Nat.add_sub_cancel_left, List.nil_append]
    rw [t1, t2]
    simp [List.append_assoc]

/-- x[i] = a token -/
theorem Ot.store {lo : Nat} {st : St} {x : V} {l : List Tk} (hv : Ot lo st x l) {i : Nat} (hi : i < l.length) {k : IntKind} (e : Tk) :
    ∃ a, vindexAddr Tryd.prog 25 x (.int k (i : Int)) = some a ∧ ∃ st', vstore Tryd.prog st 31 a (.agg e.cells) = some st' ∧ Ot lo st' x (l.set i e) ∧ st'.ctr = st.ctr ∧ ∀ j, j < lo → st'.box.get j = st.box.get j := by
  have hb : Nat.blt i l.length = true := by rw [blt_dec]; exact decide_eq_true hi
  cases hv with
  | nils => simp at hi
  | ms id cap fl l hbx h1 h2 hc =>
    refine ⟨.ptr id (0 + i * 3), by simp only [vindexAddr, u25, asNat_cast, z31, hb, Nat.beq_refl], { st with box := st.box.put id (.cells (toksV (l.set i e)) 31 fl (some 0)) }, ?_, ?_, rfl, fun j hj => ?_⟩
    · have e1 : Nat.ble (0 + i * 3 + 3) (toksV l).length = true := Nat.ble_eq_true_of_le (by rw [toksV_len]; omega)
      have e2 : e.cells.length = 3 := rfl
      have e3 : e.cells.all oneC = true := rfl
      have e4 : Nat.ble 0 (0 + i * 3) = true := Nat.ble_eq_true_of_le (Nat.zero_le _)
      simp only [vstore, z31, hbx, V.cells, e2, Nat.beq_refl, e1, e3, fzOk, e4, Bool.and_self]
      rw [Nat.zero_add, over_tok e l i hi]
    · have := Ot.ms (lo := lo) (st := { st with box := st.box.put id (.cells (toksV (l.set i e)) 31 fl (some 0)) }) id cap fl (l.set i e) (by simp [Tr.get_put]) h1 h2 (by simpa using hc)
      simpa using this
    · show (st.box.put id _).get j = _
      rw [Tr.get_put, if_neg (by omega)]

def LawT (_st : St) (v : V) (_st' : St) : Prop := v = .bool true

variable [Memo] [NL]

set_option maxHeartbeats 1000000 in
theorem lawTokens_ok (gl : Gl) (hgl : gl.get 0 = some (opsS.map .str)) (st : St) (s : S) :
    ∃ v st', W Tryd.prog (.call gl 4 [.str s]) st = .call (.val v st') ∧ LawT st v st' := by
  have hk10 : callable Tryd.prog 10 = true := by kernel_rfl
  have hk12 : callable Tryd.prog 12 = true := by kernel_rfl
  have hk13 : callable Tryd.prog 13 = true := by kernel_rfl
  have hlen := vlen_str Tryd.underlying9 (s := s)
  have hbq : vbuild Tryd.prog 31 [(1, .str (S.ofList [63]))] = some (.agg (⟨0, S.ofList [63], 0⟩ : Tk).cells) := by kernel_rfl
  refine call_ex (NL.no _ rfl _ _) Tryd.func4 rfl (by kernel_rfl) ?_
  repeat refine Does.seq ?_
  refine Does.region ?_
  simp
  repeat refine Does.seq ?_
  refine Does.region ?_
  by_cases hlong : 20000 < s.n
  · have hlong' : (20000 : Int) < (s.n : Int) := by omega
    simp [hlen, vbin_gtr, hlong']
    repeat refine Does.seq ?_
    refine Does.condT (by simp) ?_
    repeat refine Does.seq ?_
    refine Does.region ?_
    simp
    refine Does.ret ?_
    simp
    rfl
  · have hlong' : ¬ (20000 : Int) < (s.n : Int) := by omega
    simp [hlen, vbin_gtr, hlong']
    repeat refine Does.seq ?_
    refine Does.condF (by simp) ?_
    refine Does.skip ?_
    simp
    repeat refine Does.seq ?_
    refine Does.region ?_
    obtain ⟨v, st1, hcall, x, ts, rfl, hot, hts, htl, hk1⟩ := reftokens_ok gl st s (by omega)
    have hcall := ihCall_W hcall
    generalize hT1 : (tokL s.toList).2.1 = T1 at hcall
    generalize hT2 : (tokL s.toList).2.2 = T2 at hcall
    simp [vcall_callable hk12, hcall]
    clear hcall
    repeat refine Does.seq ?_
    refine Does.region ?_
    simp
    refine Does.mono (Q := fun e fr' st' => e = AE.normal ∧ fr'.ds = []) ?loop ?tail
    case tail =>
      rintro e fr' st' ⟨rfl, hds⟩
      simp
      repeat refine Does.seq ?_
      refine Does.region ?_
      simp
      refine Does.ret ?_
      simp [hds]
      rfl
    case loop =>
      refine Does.block (Does.up 2 (fun n fr st' => Keep st1 st' ∧ fr.ds = [] ∧ fr.gl = gl ∧ Fr.at fr 0 = .str s ∧ Fr.at fr 3 = x ∧ Fr.at fr 4 = .int .i64 (T1 : Int) ∧ Fr.at fr 5 = .int .i64 (T2 : Int) ∧ Fr.at fr 6 = .int .i64 (n : Int) ∧ n ≤ 2) 0 ?init ?bound ?step)
      case init => exact ⟨.refl _, by simp, by simp, by simp, by simp, by simp, by simp, by simp, Nat.zero_le _⟩
      case bound => exact fun i fr st' h => h.2.2.2.2.2.2.2.2
      case step =>
        rintro n fr st' ⟨hk, hds, hg, h0, h3, h4, h5, h6, hn2⟩
        repeat refine Does.seq ?_
        refine Does.region ?_
        by_cases hlt : n < 2
        · have hlt' : (n : Int) < 2 := by omega
          simp [h6, vbin_lss, hlt']
          repeat refine Does.seq ?_
          refine Does.condT (by simp) ?_
          refine Does.skip ?_
          simp
          repeat refine Does.seq ?_
          refine Does.block ?_
          repeat refine Does.seq ?_
          refine Does.region ?_
          obtain ⟨v, st2, hcall, y, us, rfl, hou, hus, hul, hk2⟩ := tokens_ok gl hgl st' s (by omega)
          have hcall := ihCall_W hcall
          rw [hT1, hT2] at hcall
          simp [h0, hg, vcall_callable hk10, hcall]
          clear hcall
          repeat refine Does.seq ?_
          refine Does.region ?_
          have hot2 := hot.keep (hk.trans hk2)
          obtain ⟨v, st3, hcall, rfl, hk3⟩ := same_ok gl st2 st'.ctr st.ctr y x us ts hou hot2 (by simp at hul; omega)
          have hcall := ihCall_W hcall
          have heq : us.map Tk.tok = ts.map Tk.tok := hus.trans hts.symm
          rw [decide_eq_true heq] at hcall
          simp [h3, h4, h5, hg, vcall_callable hk13, hcall, vbin_neq]
          clear hcall
          repeat refine Does.seq ?_
          refine Does.condF (by simp) ?_
          refine Does.skip ?_
          simp
          repeat refine Does.seq ?_
          refine Does.region ?_
          simp
          have hkk : Keep st1 st3 := (hk.trans hk2).trans hk3
          have hou3 := hou.keep hk3
          have hc2 : st1.ctr ≤ st'.ctr := hk.ctr
          have hul' : us.length ≤ 20000 := by simp at hul; omega
          refine Does.mono (Q := fun e fr' st' => e = AE.normal ∧ Keep st1 st' ∧ fr'.ds = [] ∧ fr'.gl = gl ∧ Fr.at fr' 0 = .str s ∧ Fr.at fr' 3 = x ∧ Fr.at fr' 4 = .int .i64 (T1 : Int) ∧ Fr.at fr' 5 = .int .i64 (T2 : Int) ∧ Fr.at fr' 6 = .int .i64 (n : Int)) ?wl ?wt
          case wt =>
            rintro e fr' st4 ⟨rfl, hk4, hds, hg, h0, h3, h4, h5, h6⟩
            simp
            refine Does.region ?_
            have hw := wrap1 (i := n) (by omega)
            simp at hw
            simp [h6, vbin_add, hw]
            exact ⟨n + 1, by omega, hk4, hds, hg, h0, h3, h4, h5, by simp, by omega⟩
          case wl =>
            refine Does.block (Does.up us.length (fun i fr' st4 => Keep st1 st4 ∧ fr'.ds = [] ∧ fr'.gl = gl ∧ Fr.at fr' 0 = .str s ∧ Fr.at fr' 3 = x ∧ Fr.at fr' 4 = .int .i64 (T1 : Int) ∧ Fr.at fr' 5 = .int .i64 (T2 : Int) ∧ Fr.at fr' 6 = .int .i64 (n : Int) ∧ Fr.at fr' 7 = y ∧ Fr.at fr' 10 = .int .i64 (i : Int) ∧ i ≤ us.length ∧ ∃ ls : List Tk, ls.length = us.length ∧ Ot st'.ctr st4 y ls) 0 ?winit ?wbound ?wstep)
            case winit => exact ⟨hkk, by simp [hds], by simp [hg], by simp [h0], by simp [h3], by simp [h4], by simp [h5], by simp [h6], by simp, by simp, Nat.zero_le _, us, rfl, hou3⟩
            case wbound => exact fun i fr st' h => h.2.2.2.2.2.2.2.2.2.2.1
            case wstep =>
              clear hds hg h0 h3 h4 h5 h6
              rintro i fr2 st4 ⟨hk4, hds, hg, h0, h3, h4, h5, h6, h7, h10, hi, ls, hls, hol⟩
              have hll := hol.len
              rw [hls] at hll
              repeat refine Does.seq ?_
              refine Does.region ?_
              by_cases hil : i < us.length
              · have hil' : (i : Int) < (us.length : Int) := by omega
                obtain ⟨a, g1, st5, g2, g3, g4, g5⟩ := hol.store (k := .i64) (show i < ls.length by omega) ⟨0, S.ofList [63], 0⟩
                have hk5 : Keep st1 st5 := ⟨by rw [g4]; exact hk4.ctr, fun j hj => by rw [g5 j (by omega), hk4.box j hj]⟩
                simp [h7, h10, hll, vbin_lss, hil']
                repeat refine Does.seq ?_
                refine Does.condT (by simp) ?_
                refine Does.skip ?_
                simp
                repeat refine Does.seq ?_
                refine Does.block ?_
                refine Does.region ?_
                simp [h7, h10, evParts, hbq, g1, vact, g2]
                refine Does.region ?_
                have hw := wrap1 (i := i) (by omega)
                simp at hw
                simp [h10, vbin_add, hw]
                exact ⟨i + 1, by omega, hk5, hds, hg, h0, h3, h4, h5, h6, h7, by simp, by omega, _, by simpa using hls, g3⟩
              · have hil' : ¬ (i : Int) < (us.length : Int) := by omega
                simp [h7, h10, hll, vbin_lss, hil']
                repeat refine Does.seq ?_
                refine Does.condF (by simp) ?_
                refine Does.exit ?_
                simp
                exact ⟨hk4, hds, hg, h0, h3, h4, h5, h6⟩
        · have hlt' : ¬ (n : Int) < 2 := by omega
          simp [h6, vbin_lss, hlt']
          repeat refine Does.seq ?_
          refine Does.condF (by simp) ?_
          refine Does.exit ?_
          simp [hds]
end Go.Vm
