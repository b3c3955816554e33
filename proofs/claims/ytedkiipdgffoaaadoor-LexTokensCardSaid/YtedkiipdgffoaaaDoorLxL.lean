/- The law LexTokens returns true, by the evaluator's equations. -/
import Derived.Test.YtedkiipdgffoaaaDoorLxK
namespace Go.Vm
open Go Go.Proofs Go.Lx
attribute [local simp] Oks xOps vwanted isDefer vop kindOf vpure ev evs toV andThen inBlock atTo_some Fr.dsTo Fr.glTo Fr.toNone initFr_at initFr_ds initFr_gl veff traverse tupled vresult V.undef evOpt xDraw xStep

theorem over_tok (e : Tk) : ∀ (l : List Tk) (i : Nat), i < l.length → over (toksV l) (i * 3) e.cells = toksV (l.set i e)
  | [], i, h => by simp at h
  | a :: l, 0, _ => by
    show over (a.cells ++ toksV l) 0 e.cells = e.cells ++ toksV l
    have h1 : e.cells.length = 3 := rfl
    have h2 : a.cells.length = 3 := rfl
    simp only [over, List.take_zero, List.nil_append, h1, Nat.zero_add]
    rw [List.drop_append_of_le_length (by rw [h2]; exact Nat.le_refl _), List.drop_of_length_le (by rw [h2]; exact Nat.le_refl _), List.nil_append]
  | a :: l, i + 1, h => by
    have ih := over_tok e l i (by simpa using h)
    show over (a.cells ++ toksV l) ((i + 1) * 3) e.cells = a.cells ++ toksV (l.set i e)
    rw [← ih]
    have h2 : a.cells.length = 3 := rfl
    simp only [over]
    have t1 : List.take ((i + 1) * 3) (a.cells ++ toksV l) = a.cells ++ List.take (i * 3) (toksV l) := by
      rw [show (i + 1) * 3 = a.cells.length + i * 3 by rw [h2]; omega, List.take_append]
      rw [List.take_of_length_le (by omega), Nat.add_sub_cancel_left]
    have t2 : List.drop ((i + 1) * 3 + e.cells.length) (a.cells ++ toksV l) = List.drop (i * 3 + e.cells.length) (toksV l) := by
      rw [show (i + 1) * 3 + e.cells.length = a.cells.length + (i * 3 + e.cells.length) by rw [h2]; omega, List.drop_append]
      rw [List.drop_of_length_le (by omega), Nat.add_sub_cancel_left, List.nil_append]
    rw [t1, t2]
    simp [List.append_assoc]

/-- x[i] = a token -/
theorem Ot.store {lo : Nat} {st : St} {x : V} {l : List Tk} (hv : Ot lo st x l) {i : Nat} (hi : i < l.length) {k : IntKind} (e : Tk) :
    ∃ a, vindexAddr Tryd.prog 25 x (.int k (i : Int)) = some a ∧ ∃ st', vstore Tryd.prog st 31 a (.agg e.cells) = some st' ∧ Ot lo st' x (l.set i e) ∧ st'.ctr = st.ctr ∧ ∀ j, j < lo → st'.box.get j = st.box.get j := by
  have hb : Nat.blt i l.length = true := by rw [blt_dec]; exact decide_eq_true hi
  cases hv with
  | nils => simp at hi
  | ms id cap fl l hbx h1 h2 hc =>
    refine ⟨.ptr id (0 + i * 3), by simp only [vindexAddr, u25, asNat_cast, z31, hb, Nat.beq_refl], { st with box := st.box.put id (.cells (toksV (l.set i e)) 31 fl (some 0)) }, ?_, ?_, rfl, fun j hj => ?_⟩
    · have e1 : Nat.ble (0 + i * 3 + 3) (toksV l).length = true := Nat.ble_eq_true_of_le (by rw [toksV_len]; omega)
      have e2 : e.cells.length = 3 := rfl
      have e3 : e.cells.all oneC = true := rfl
      have e4 : Nat.ble 0 (0 + i * 3) = true := Nat.ble_eq_true_of_le (Nat.zero_le _)
      simp only [vstore, z31, hbx, V.cells, e2, Nat.beq_refl, e1, e3, fzOk, e4, Bool.and_self]
      rw [Nat.zero_add, over_tok e l i hi]
    · have := Ot.ms (lo := lo) (st := { st with box := st.box.put id (.cells (toksV (l.set i e)) 31 fl (some 0)) }) id cap fl (l.set i e) (by simp [Tr.get_put]) h1 h2 (by simpa using hc)
      simpa using this
    · show (st.box.put id _).get j = _
      rw [Tr.get_put, if_neg (by omega)]

def LawT (_st : St) (v : V) (_st' : St) : Prop := v = .bool true

variable [Memo] [NL]

set_option maxHeartbeats 1000000 in
theorem lawTokens_ok (gl : Gl) (hgl : gl.get 0 = some (opsS.map .str)) (st : St) (s : S) :
    ∃ v st', W Tryd.prog (.call gl 4 [.str s]) st = .call (.val v st') ∧ LawT st v st' := by
  have hk10 : callable Tryd.prog 10 = true := by kernel_rfl
  have hk12 : callable Tryd.prog 12 = true := by kernel_rfl
  have hk13 : callable Tryd.prog 13 = true := by kernel_rfl
  have hlen := vlen_str Tryd.underlying9 (s := s)
  have hbq : vbuild Tryd.prog 31 [(1, .str (S.ofList [63]))] = some (.agg (⟨0, S.ofList [63], 0⟩ : Tk).cells) := by kernel_rfl
  refine call_ex (NL.no _ rfl _ _) Tryd.func4 rfl (by kernel_rfl) ?_
  repeat refine Does.seq ?_
  refine Does.region ?_
  simp
  repeat refine Does.seq ?_
  refine Does.region ?_
  by_cases hlong : 20000 < s.n
  · have hlong' : (20000 : Int) < (s.n : Int) := by omega
    simp [hlen, vbin_gtr, hlong']
    repeat refine Does.seq ?_
    refine Does.condT (by simp) ?_
    repeat refine Does.seq ?_
    refine Does.region ?_
    simp
    refine Does.ret ?_
    simp
    rfl
  · have hlong' : ¬ (20000 : Int) < (s.n : Int) := by omega
    simp [hlen, vbin_gtr, hlong']
    repeat refine Does.seq ?_
    refine Does.condF (by simp) ?_
    refine Does.skip ?_
    simp
    repeat refine Does.seq ?_
    refine Does.region ?_
    obtain ⟨v, st1, hcall, x, ts, rfl, hot, hts, htl, hk1⟩ := reftokens_ok gl st s (by omega)
    have hcall := ihCall_W hcall
    generalize hT1 : (tokL s.toList).2.1 = T1 at hcall
    generalize hT2 : (tokL s.toList).2.2 = T2 at hcall
    simp [vcall_callable hk12, hcall]
    clear hcall
    repeat refine Does.seq ?_
    refine Does.region ?_
    simp
    refine Does.mono (Q := fun e fr' st' => e = AE.normal ∧ fr'.ds = []) ?loop ?tail
    case tail =>
      rintro e fr' st' ⟨rfl, hds⟩
      simp
      repeat refine Does.seq ?_
      refine Does.region ?_
      simp
      refine Does.ret ?_
      simp [hds]
      rfl
    case loop =>
      refine Does.block (Does.up 2 (fun n fr st' => Keep st1 st' ∧ fr.ds = [] ∧ fr.gl = gl ∧ Fr.at fr 0 = .str s ∧ Fr.at fr 3 = x ∧ Fr.at fr 4 = .int .i64 (T1 : Int) ∧ Fr.at fr 5 = .int .i64 (T2 : Int) ∧ Fr.at fr 6 = .int .i64 (n : Int) ∧ n ≤ 2) 0 ?init ?bound ?step)
      case init => exact ⟨.refl _, by simp, by simp, by simp, by simp, by simp, by simp, by simp, Nat.zero_le _⟩
      case bound => exact fun i fr st' h => h.2.2.2.2.2.2.2.2
      case step =>
        rintro n fr st' ⟨hk, hds, hg, h0, h3, h4, h5, h6, hn2⟩
        repeat refine Does.seq ?_
        refine Does.region ?_
        by_cases hlt : n < 2
        · have hlt' : (n : Int) < 2 := by omega
          simp [h6, vbin_lss, hlt']
          repeat refine Does.seq ?_
          refine Does.condT (by simp) ?_
          refine Does.skip ?_
          simp
          repeat refine Does.seq ?_
          refine Does.block ?_
          repeat refine Does.seq ?_
          refine Does.region ?_
          obtain ⟨v, st2, hcall, y, us, rfl, hou, hus, hul, hk2⟩ := tokens_ok gl hgl st' s (by omega)
          have hcall := ihCall_W hcall
          rw [hT1, hT2] at hcall
          simp [h0, hg, vcall_callable hk10, hcall]
          clear hcall
          repeat refine Does.seq ?_
          refine Does.region ?_
          have hot2 := hot.keep (hk.trans hk2)
          obtain ⟨v, st3, hcall, rfl, hk3⟩ := same_ok gl st2 st'.ctr st.ctr y x us ts hou hot2 (by simp at hul; omega)
          have hcall := ihCall_W hcall
          have heq : us.map Tk.tok = ts.map Tk.tok := hus.trans hts.symm
          rw [decide_eq_true heq] at hcall
          simp [h3, h4, h5, hg, vcall_callable hk13, hcall, vbin_neq]
          clear hcall
          repeat refine Does.seq ?_
          refine Does.condF (by simp) ?_
          refine Does.skip ?_
          simp
          repeat refine Does.seq ?_
          refine Does.region ?_
          simp
          have hkk : Keep st1 st3 := (hk.trans hk2).trans hk3
          have hou3 := hou.keep hk3
          have hc2 : st1.ctr ≤ st'.ctr := hk.ctr
          have hul' : us.length ≤ 20000 := by simp at hul; omega
          refine Does.mono (Q := fun e fr' st' => e = AE.normal ∧ Keep st1 st' ∧ fr'.ds = [] ∧ fr'.gl = gl ∧ Fr.at fr' 0 = .str s ∧ Fr.at fr' 3 = x ∧ Fr.at fr' 4 = .int .i64 (T1 : Int) ∧ Fr.at fr' 5 = .int .i64 (T2 : Int) ∧ Fr.at fr' 6 = .int .i64 (n : Int)) ?wl ?wt
          case wt =>
            rintro e fr' st4 ⟨rfl, hk4, hds, hg, h0, h3, h4, h5, h6⟩
            simp
            refine Does.region ?_
            have hw := wrap1 (i := n) (by omega)
            simp at hw
            simp [h6, vbin_add, hw]
            exact ⟨n + 1, by omega, hk4, hds, hg, h0, h3, h4, h5, by simp, by omega⟩
          case wl =>
            refine Does.block (Does.up us.length (fun i fr' st4 => Keep st1 st4 ∧ fr'.ds = [] ∧ fr'.gl = gl ∧ Fr.at fr' 0 = .str s ∧ Fr.at fr' 3 = x ∧ Fr.at fr' 4 = .int .i64 (T1 : Int) ∧ Fr.at fr' 5 = .int .i64 (T2 : Int) ∧ Fr.at fr' 6 = .int .i64 (n : Int) ∧ Fr.at fr' 7 = y ∧ Fr.at fr' 10 = .int .i64 (i : Int) ∧ i ≤ us.length ∧ ∃ ls : List Tk, ls.length = us.length ∧ Ot st'.ctr st4 y ls) 0 ?winit ?wbound ?wstep)
            case winit => exact ⟨hkk, by simp [hds], by simp [hg], by simp [h0], by simp [h3], by simp [h4], by simp [h5], by simp [h6], by simp, by simp, Nat.zero_le _, us, rfl, hou3⟩
            case wbound => exact fun i fr st' h => h.2.2.2.2.2.2.2.2.2.2.1
            case wstep =>
              clear hds hg h0 h3 h4 h5 h6
              rintro i fr2 st4 ⟨hk4, hds, hg, h0, h3, h4, h5, h6, h7, h10, hi, ls, hls, hol⟩
              have hll := hol.len
              rw [hls] at hll
              repeat refine Does.seq ?_
              refine Does.region ?_
              by_cases hil : i < us.length
              · have hil' : (i : Int) < (us.length : Int) := by omega
                obtain ⟨a, g1, st5, g2, g3, g4, g5⟩ := hol.store (k := .i64) (show i < ls.length by omega) ⟨0, S.ofList [63], 0⟩
                have hk5 : Keep st1 st5 := ⟨by rw [g4]; exact hk4.ctr, fun j hj => by rw [g5 j (by omega), hk4.box j hj]⟩
                simp [h7, h10, hll, vbin_lss, hil']
                repeat refine Does.seq ?_
                refine Does.condT (by simp) ?_
                refine Does.skip ?_
                simp
                repeat refine Does.seq ?_
                refine Does.block ?_
                refine Does.region ?_
                simp [h7, h10, evParts, hbq, g1, vact, g2]
                refine Does.region ?_
                have hw := wrap1 (i := i) (by omega)
                simp at hw
                simp [h10, vbin_add, hw]
                exact ⟨i + 1, by omega, hk5, hds, hg, h0, h3, h4, h5, h6, h7, by simp, by omega, _, by simpa using hls, g3⟩
              · have hil' : ¬ (i : Int) < (us.length : Int) := by omega
                simp [h7, h10, hll, vbin_lss, hil']
                repeat refine Does.seq ?_
                refine Does.condF (by simp) ?_
                refine Does.exit ?_
                simp
                exact ⟨hk4, hds, hg, h0, h3, h4, h5, h6⟩
        · have hlt' : ¬ (n : Int) < 2 := by omega
          simp [h6, vbin_lss, hlt']
          repeat refine Does.seq ?_
          refine Does.condF (by simp) ?_
          refine Does.exit ?_
          simp [hds]
end Go.Vm
