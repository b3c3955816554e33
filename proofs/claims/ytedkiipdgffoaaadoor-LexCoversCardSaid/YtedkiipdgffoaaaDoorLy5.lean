/- idle; a token's fields; appends that leave what else there is. The law LexTwo returns true, by the evaluator's equations. works() is a known call: a run in the kernel, the operators being laid. -/
import Derived.Test.YtedkiipdgffoaaaDoorLy4
import Derived.Test.YtedkiipdgffoaaaDoorLy1
import Derived.Test.YtedkiipdgffoaaaDoorVmMemo
namespace Go.Vm
open Go Go.Proofs Go.Lx
attribute [local simp] Oks xOps vwanted isDefer vop kindOf vpure ev evs toV andThen inBlock atTo_some Fr.dsTo Fr.glTo Fr.toNone initFr_at initFr_ds initFr_gl veff traverse tupled vresult V.undef evOpt xDraw xStep

theorem tfld0 (id o : Nat) : vfieldAddr Tryd.prog 31 (.ptr id o) 0 = some (.ptr id o) := by kernel_rfl
theorem tfld1 (id o : Nat) : vfieldAddr Tryd.prog 31 (.ptr id o) 1 = some (.ptr id (o + 1)) := by kernel_rfl
theorem tfld2 (id o : Nat) : vfieldAddr Tryd.prog 31 (.ptr id o) 2 = some (.ptr id (o + 2)) := by kernel_rfl
theorem a5' : isAggT Tryd.prog 5 = some false := by kernel_rfl

theorem toksV_get (l : List Tk) (i j : Nat) (hi : i < l.length) (hj : j < 3) : (toksV l)[i * 3 + j]? = (l.getD i ⟨0, ⟨0, 0⟩, 0⟩).cells[j]? := by
  have h := congrArg (fun x => x[j]?) (toksV_sub l i hi)
  simp only [sub, List.getElem?_take, List.getElem?_drop, if_pos hj] at h
  exact h

/-- a token's fields, now and later -/
theorem Ot.fields {lo : Nat} {st : St} {x : V} {l : List Tk} (hv : Ot lo st x l) {i : Nat} (hi : i < l.length) :
    ∃ id, lo ≤ id ∧ id < st.ctr ∧ (∀ k, vindexAddr Tryd.prog 25 x (.int k (i : Int)) = some (.ptr id (i * 3))) ∧ ∀ st', Keep st st' →
      vload Tryd.prog st' 5 (.ptr id (i * 3)) = some (.int .u8 ((l.getD i ⟨0, ⟨0, 0⟩, 0⟩).k : Int)) ∧ vload Tryd.prog st' 9 (.ptr id (i * 3 + 1)) = some (.str (l.getD i ⟨0, ⟨0, 0⟩, 0⟩).t) ∧ vload Tryd.prog st' 3 (.ptr id (i * 3 + 2)) = some (.int .i64 ((l.getD i ⟨0, ⟨0, 0⟩, 0⟩).p : Int)) := by
  have hb : Nat.blt i l.length = true := by rw [blt_dec]; exact decide_eq_true hi
  cases hv with
  | nils => simp at hi
  | ms id cap fl l hbx h1 h2 hc =>
    refine ⟨id, h1, h2, fun k => by simp only [vindexAddr, u25, asNat_cast, z31, hb, Nat.beq_refl, Nat.zero_add], fun st' hk => ?_⟩
    have hbx' : st'.box.get id = some (.cells (toksV l) 31 fl (some 0)) := by rw [hk.box id h2]; exact hbx
    refine ⟨vload_of a5' z5 hbx' ?_, vload_of a9 z9 hbx' ?_, vload_of a3 z3 hbx' ?_⟩
    · exact toksV_get l i 0 hi (by decide)
    · exact toksV_get l i 1 hi (by decide)
    · exact toksV_get l i 2 hi (by decide)

/-- the place of a token is set -/
theorem Ot.setP {lo : Nat} {st : St} {x : V} {l : List Tk} (hv : Ot lo st x l) {i : Nat} (hi : i < l.length) (q : Nat) :
    ∃ id, lo ≤ id ∧ (∀ k, vindexAddr Tryd.prog 25 x (.int k (i : Int)) = some (.ptr id (i * 3))) ∧ vload Tryd.prog st 3 (.ptr id (i * 3 + 2)) = some (.int .i64 ((l.getD i ⟨0, ⟨0, 0⟩, 0⟩).p : Int)) ∧
      ∃ st', vstore Tryd.prog st 3 (.ptr id (i * 3 + 2)) (.int .i64 (q : Int)) = some st' ∧ Ot lo st' x (l.set i { l.getD i ⟨0, ⟨0, 0⟩, 0⟩ with p := q }) ∧ st'.ctr = st.ctr ∧ (∀ j, j ≠ id → st'.box.get j = st.box.get j) ∧ id < st.ctr := by
  have hb : Nat.blt i l.length = true := by rw [blt_dec]; exact decide_eq_true hi
  cases hv with
  | nils => simp at hi
  | ms id cap fl l hbx h1 h2 hc =>
    have hlen := toksV_len l
    have hst := vstore_one (P := Tryd.prog) (t := 3) (off := i * 3 + 2) (v := .int .i64 (q : Int)) z3 hbx (by omega) rfl
    have hset : (toksV l).set (i * 3 + 2) (.int .i64 (q : Int)) = toksV (l.set i { l.getD i ⟨0, ⟨0, 0⟩, 0⟩ with p := q }) := by
      rw [← over_tok _ l i hi]
      apply List.ext_getElem?
      intro j
      have g0 := toksV_get l i 0 hi (by decide)
      have g1 := toksV_get l i 1 hi (by decide)
      simp only [Tk.cells, List.getElem?_cons_zero, List.getElem?_cons_succ, Nat.add_zero] at g0 g1
      simp only [over, Tk.cells]
      rw [List.getElem?_set]
      by_cases hj : j < i * 3
      · rw [if_neg (by omega), List.append_assoc, List.getElem?_append_left (by simp; omega), List.getElem?_take_of_lt hj]
      · rw [List.append_assoc, List.getElem?_append_right (by simp; omega), List.length_take, Nat.min_eq_left (by omega)]
        rcases Nat.lt_or_ge j (i * 3 + 3) with h3 | h3
        · have hc3 : j = i * 3 ∨ j = i * 3 + 1 ∨ j = i * 3 + 2 := by omega
          rcases hc3 with rfl | rfl | rfl
          · rw [if_neg (by omega), Nat.sub_self, g0]; rfl
          · rw [if_neg (by omega), show i * 3 + 1 - i * 3 = 1 by omega, g1]; rfl
          · rw [if_pos rfl, if_pos (by omega), show i * 3 + 2 - i * 3 = 2 by omega]; rfl
        · rw [if_neg (by omega), List.getElem?_append_right (by simp; omega), List.getElem?_drop]
          congr 1
          simp; omega
    rw [hset] at hst
    refine ⟨id, h1, fun k => by simp only [vindexAddr, u25, asNat_cast, z31, hb, Nat.beq_refl, Nat.zero_add], vload_of a3 z3 hbx (toksV_get l i 2 hi (by decide)), _, hst, ?_, rfl, fun j hj => ?_, h2⟩
    · have := Ot.ms (lo := lo) (st := { st with box := st.box.put id (.cells (toksV (l.set i { l.getD i ⟨0, ⟨0, 0⟩, 0⟩ with p := q })) 31 fl (some 0)) }) id cap fl (l.set i { l.getD i ⟨0, ⟨0, 0⟩, 0⟩ with p := q }) (by simp [Tr.get_put]) h1 h2 (by simpa using hc)
      simpa using this
    · show (st.box.put id _).get j = _
      rw [Tr.get_put, if_neg hj]

/-- a slice that lies between two numbers -/
def In (lo hi : Nat) (st : St) (x : V) (l : List Tk) : Prop := Ot lo st x l ∧ (x = .nils ∨ ∃ id n cap, x = .ms id 0 n 3 cap ∧ id < hi)

theorem Ot.inn {lo : Nat} {st : St} {x : V} {l : List Tk} (hv : Ot lo st x l) : In lo st.ctr st x l := by
  refine ⟨hv, ?_⟩
  cases hv with
  | nils => exact .inl rfl
  | ms id cap fl l hb h1 h2 hc => exact .inr ⟨id, _, _, rfl, h2⟩

/-- what lies elsewhere stays -/
theorem In.stay {lo hi : Nat} {st st' : St} {x : V} {l : List Tk} (hv : In lo hi st x l) (hc : st.ctr ≤ st'.ctr) (h : ∀ i, lo ≤ i → i < hi → st'.box.get i = st.box.get i) : In lo hi st' x l := by
  obtain ⟨ho, hx⟩ := hv
  refine ⟨?_, hx⟩
  cases ho with
  | nils => exact .nils
  | ms id cap fl l hb h1 h2 hcp =>
    rcases hx with hx | ⟨id', n, cap', hx, hlt⟩
    · cases hx
    · cases hx
      exact .ms id cap fl l (by rw [h id h1 hlt]; exact hb) h1 (by omega) hcp

/-- append(x, y...) makes a new slice; what is not x's stays -/
theorem In.app {lo hi : Nat} {st : St} {x y : V} {l m : List Tk} (hx : In lo hi st x l) (hhi : hi ≤ st.ctr) (hy : srcCells st 3 y = some (toksV m, m.length)) (hl : l.length + m.length < 1000000) (hm : m ≠ []) :
    ∃ z st', vappend Tryd.prog st 25 x y = some (z, st') ∧ In st.ctr st'.ctr st' z (l ++ m) ∧ st.ctr ≤ st'.ctr ∧ (∀ i, i < st.ctr → ¬ (lo ≤ i ∧ i < hi) → st'.box.get i = st.box.get i) := by
  obtain ⟨ho, hxx⟩ := hx
  have i31 : Tryd.prog.info? 31 = some Tryd.t31 := by kernel_rfl
  have t3 : Tryd.t31.size = 3 := rfl
  have tb : Tryd.t31.bytes = 32 := rfl
  have zv : zeroT Tryd.prog 31 = some (.agg [.int .u8 0, .str ⟨0, 0⟩, .int .i64 0]) := by kernel_rfl
  have hold : sliceCells st 3 x = some (toksV l, l.length) := ho.cells
  have hm0 : Nat.beq m.length 0 = false := by
    cases m with
    | nil => exact absurd rfl hm
    | cons a b => rfl
  have hml : 0 < m.length := List.length_pos_iff.2 hm
  have e1 : Nat.ble ((l.length + m.length) * Tryd.t31.bytes) maxBytes = true := Nat.ble_eq_true_of_le (by rw [tb]; simp only [maxBytes]; omega)
  have e2 : Nat.ble (l.length + m.length) maxBytes = true := Nat.ble_eq_true_of_le (by simp only [maxBytes]; omega)
  have e3 : (toksV m).all oneC = true := toksV_one m
  have e4 : Nat.beq (V.agg [.int .u8 0, .str ⟨0, 0⟩, .int .i64 0]).cells.length 3 = true := rfl
  have e5 : Nat.beq 3 0 = false := rfl
  have fresh : ∀ (bx : Tr Bx), In st.ctr (st.ctr + 1) { ctr := st.ctr + 1, box := bx.put st.ctr (.cells (toksV l ++ toksV m) 31 false (some 0)) } (.ms st.ctr 0 (l.length + m.length) 3 none) (l ++ m) := fun bx => by
    refine ⟨?_, .inr ⟨st.ctr, _, _, rfl, Nat.lt_succ_self _⟩⟩
    have := Ot.ms (lo := st.ctr) (st := { ctr := st.ctr + 1, box := bx.put st.ctr (.cells (toksV (l ++ m)) 31 false (some 0)) }) st.ctr none false (l ++ m) (by simp [Tr.get_put]) (Nat.le_refl _) (Nat.lt_succ_self _) (.inl rfl)
    simpa [toksV_app] using this
  cases ho with
  | nils =>
    refine ⟨.ms st.ctr 0 ([].length + m.length) 3 none, { ctr := st.ctr + 1, box := st.box.put st.ctr (.cells (toksV [] ++ toksV m) 31 false (some 0)) }, ?_, fresh st.box, Nat.le_succ _, fun i hi _ => by rw [Tr.get_put, if_neg (by omega)]⟩
    simp only [vappend, u25, i31, zv, t3, hy, hold, hm0, e1, e2, e3, e4, e5]
    rfl
  | ms id cap fl l hb h1 h2 hc =>
    have hlt : id < hi := by
      rcases hxx with h | ⟨_, _, _, h, h'⟩
      · cases h
      · cases h; exact h'
    rcases hc with rfl | rfl
    · have e6 : Nat.ble (0 + (l.length + m.length) * 3) (toksV l).length = false := by
        cases h : Nat.ble (0 + (l.length + m.length) * 3) (toksV l).length with
        | false => rfl
        | true =>
          have := Nat.le_of_ble_eq_true h
          rw [toksV_len] at this; omega
      have e7 : Nat.ble 0 (0 + l.length * 3) = true := Nat.ble_eq_true_of_le (Nat.zero_le _)
      refine ⟨.ms st.ctr 0 (l.length + m.length) 3 none, { ctr := st.ctr + 1, box := (st.box.del id).put st.ctr (.cells (toksV l ++ toksV m) 31 false (some 0)) }, ?_, fresh _, Nat.le_succ _, fun i hi hne => by rw [Tr.get_put, if_neg (by omega), Tr.get_del, if_neg (by omega)]⟩
      simp only [vappend, u25, i31, zv, t3, hy, hold, hm0, e1, e2, e3, e4, e5, hb, roomOf, e6, fzOk, e7, Nat.beq_refl, Bool.and_self]
      simp [fzSub]
    · have e6 : Nat.ble (l.length + m.length) l.length = false := by
        cases h : Nat.ble (l.length + m.length) l.length with
        | false => rfl
        | true =>
          have := Nat.le_of_ble_eq_true h
          omega
      refine ⟨.ms st.ctr 0 (l.length + m.length) 3 none, { ctr := st.ctr + 1, box := st.box.put st.ctr (.cells (toksV l ++ toksV m) 31 false (some 0)) }, ?_, fresh _, Nat.le_succ _, fun i hi _ => by rw [Tr.get_put, if_neg (by omega)]⟩
      simp only [vappend, u25, i31, zv, t3, hy, hold, hm0, e1, e2, e3, e4, e5, hb, roomOf, e6, Nat.beq_refl, Bool.and_self]

/-- append(x, nothing...) is x -/
theorem Ot.app0 {lo : Nat} {st : St} {x y : V} {l : List Tk} (hx : Ot lo st x l) (hy : srcCells st 3 y = some (toksV [], 0)) : vappend Tryd.prog st 25 x y = some (x, st) := by
  have i31 : Tryd.prog.info? 31 = some Tryd.t31 := by kernel_rfl
  have t3 : Tryd.t31.size = 3 := rfl
  have zv : zeroT Tryd.prog 31 = some (.agg [.int .u8 0, .str ⟨0, 0⟩, .int .i64 0]) := by kernel_rfl
  have hold : sliceCells st 3 x = some (toksV l, l.length) := hx.cells
  have e5 : Nat.beq 3 0 = false := rfl
  simp only [vappend, u25, i31, zv, t3, hy, hold, e5]

theorem Ot.src {lo : Nat} {st : St} {x : V} {l : List Tk} (hv : Ot lo st x l) : srcCells st 3 x = some (toksV l, l.length) := by
  have h := hv.cells
  cases hv with
  | nils => rfl
  | ms id cap fl l hb h1 h2 hc => exact h

variable [Memo] [NL]

theorem idle_ok (gl : Gl) (st : St) (s : S) (hn : s.n < 1000000) :
    W Tryd.prog (.call gl 14 [.str s]) st = .call (.val (.bool (idleL s.toList)) st) := by
  have hk15 : callable Tryd.prog 15 = true := by kernel_rfl
  have hlen := vlen_str Tryd.underlying9 (s := s)
  refine call_does (NL.no _ rfl _ _) Tryd.func14 rfl (by kernel_rfl) ?_
  repeat refine Does.seq ?_
  refine Does.region ?_
  simp
  repeat refine Does.seq ?_
  refine Does.region ?_
  simp
  refine Does.mono (Q := fun e fr' st' => st' = st ∧ fr'.ds = [] ∧ ((e = AE.ret ∧ Fr.at fr' 2 = .bool false ∧ idleL s.toList = false) ∨ (e = AE.normal ∧ idleL s.toList = true))) ?loop ?tail
  case tail =>
    rintro e fr' st' ⟨rfl, hds, ⟨rfl, h2, hf⟩ | ⟨rfl, ht⟩⟩
    · simp [hds, h2, hf, Tryd.f14]
    · simp
      repeat refine Does.seq ?_
      refine Does.region ?_
      simp
      refine Does.ret ?_
      simp [hds, ht, Tryd.f14]
  case loop =>
    refine Does.block (Does.up s.n (fun i fr st' => st' = st ∧ fr.ds = [] ∧ fr.gl = gl ∧ Fr.at fr 0 = .str s ∧ Fr.at fr 3 = .int .i64 (i : Int) ∧ i ≤ s.n ∧ idleL (s.toList.drop i) = idleL s.toList) 0 ?init ?bound ?step)
    case init => exact ⟨rfl, by simp, by simp, by simp, by simp, Nat.zero_le _, rfl⟩
    case bound => exact fun i fr st' h => h.2.2.2.2.2.1
    case step =>
      rintro i fr st' ⟨rfl, hds, hg, h0, h3, hi, hid⟩
      repeat refine Does.seq ?_
      refine Does.region ?_
      by_cases hlt : i < s.n
      · have hlt' : (i : Int) < (s.n : Int) := by omega
        have hix := vindex_str (P := Tryd.prog) (k := .i64) Tryd.underlying9 hlt
        have hab := s.at_lt i
        have hbr := s.drop_at hlt
        have hrl : (s.toList.drop (i + 1)).length + 1 = s.n - i := by simp; omega
        rw [hbr, idleL] at hid
        have w1 := wrap1 (i := i) (by omega)
        have w2 := wrap1 (i := i + 1) (by omega)
        simp at w1 w2
        simp [h0, h3, hlen, vbin_lss, hlt']
        repeat refine Does.seq ?_
        refine Does.condT (by simp) ?_
        refine Does.skip ?_
        simp
        repeat refine Does.seq ?_
        refine Does.block ?_
        refine Does.block ?_
        repeat refine Does.seq ?_
        refine Does.region ?_
        by_cases hs1 : s.at i = 32 ∨ s.at i = 9
        · have hsb : UInt8.ofNat (s.at i) = 32 ∨ UInt8.ofNat (s.at i) = 9 := by
            rcases hs1 with h | h <;> rw [h]
            · exact .inl rfl
            · exact .inr rfl
          rw [if_pos hsb] at hid
          rcases hs1 with h | h
          all_goals
            have h' : (s.at i : Int) = _ := congrArg _ h
            simp [h0, h3, hix, vbin_eql, h']
            repeat refine Does.seq ?_
            refine Does.condT (by simp) ?_
            refine Does.skip ?_
            simp
            refine Does.region ?_
            simp [h3, vbin_add, w1]
            exact ⟨i + 1, by omega, hds, hg, h0, by simp, by omega, hid⟩
        · have hsb : ¬ (UInt8.ofNat (s.at i) = 32 ∨ UInt8.ofNat (s.at i) = 9) := by
            rintro (h | h)
            · exact hs1 (.inl ((byte_eq hab (by decide)).1 h))
            · exact hs1 (.inr ((byte_eq hab (by decide)).1 h))
          rw [if_neg hsb] at hid
          have g1 : ¬ (s.at i : Int) = 32 := by omega
          have g2 : ¬ (s.at i : Int) = 9 := by omega
          simp [h0, h3, hix, vbin_eql, g1, g2]
          repeat refine Does.seq ?_
          refine Does.condF (by simp) ?_
          repeat refine Does.seq ?_
          refine Does.region ?_
          have hpre := ihCall_W (is_ok gl st' s i (S.ofList [92, 10]) (by omega) (by omega) (by show 2 < 1000000; omega))
          rw [hbr, S.toList_ofList] at hpre
          generalize hp : [92, 10].isPrefixOf (UInt8.ofNat (s.at i) :: s.toList.drop (i + 1)) = p at hpre hid
          simp [h0, h3, hg, vcall_callable hk15, hpre]
          repeat refine Does.seq ?_
          cases p with
          | true =>
            have hlen2 := (List.isPrefixOf_iff_prefix.1 hp).length_le
            simp at hlen2
            rw [if_pos rfl, List.drop_drop] at hid
            refine Does.condT (by simp) ?_
            refine Does.region ?_
            simp [h3, vbin_add, w1]
            refine Does.region ?_
            simp [vbin_add, w2]
            exact ⟨i + 2, by omega, hds, hg, h0, by simp; omega, by omega, hid⟩
          | false =>
            rw [if_neg (by simp)] at hid
            refine Does.condF (by simp) ?_
            repeat refine Does.seq ?_
            refine Does.region ?_
            by_cases hs3 : s.at i = 35
            · have hs3' : (s.at i : Int) = 35 := by omega
              have hb35 : UInt8.ofNat (s.at i) = 35 := by rw [hs3]; rfl
              rw [if_pos hb35, ← hbr] at hid
              have hel := eolL_step hbr
              rw [if_neg (by rw [hb35]; decide)] at hel
              have hle := eolL_le (s.toList.drop i)
              simp only [List.length_drop, S.len] at hle
              rw [List.drop_drop, show i + 1 + (eolL (s.toList.drop i) - 1) = i + eolL (s.toList.drop i) by omega] at hid
              simp [h0, h3, hix, vbin_eql, hs3']
              repeat refine Does.seq ?_
              refine Does.condT (by simp) ?_
              refine Does.mono (Q := fun e fr' st'' => e = AE.normal ∧ st'' = st' ∧ fr'.ds = [] ∧ fr'.gl = gl ∧ Fr.at fr' 0 = .str s ∧ Fr.at fr' 3 = .int .i64 ((i + eolL (s.toList.drop i) - 1 : Nat) : Int)) ?el ?et
              case et =>
                rintro e fr' st'' ⟨rfl, rfl, hds, hg, h0, h3⟩
                simp
                refine Does.region ?_
                have w5 := wrap1 (i := i + eolL (s.toList.drop i) - 1) (by omega)
                rw [show i + eolL (s.toList.drop i) - 1 + 1 = i + eolL (s.toList.drop i) by omega] at w5
                simp [h3, vbin_add, w5]
                exact ⟨i + eolL (s.toList.drop i), by omega, hds, hg, h0, by simp, by omega, hid⟩
              case el =>
                refine Does.block (Does.up s.n (fun k fr' st'' => st'' = st' ∧ fr'.ds = [] ∧ fr'.gl = gl ∧ Fr.at fr' 0 = .str s ∧ Fr.at fr' 3 = .int .i64 (k : Int) ∧ k < s.n ∧ k + 1 + eolL (s.toList.drop (k + 1)) = i + eolL (s.toList.drop i)) i ?einit ?ebound ?estep)
                case einit => exact ⟨rfl, by simp [hds], by simp [hg], by simp [h0], by simp [h3], hlt, by omega⟩
                case ebound => exact fun i fr st' h => Nat.le_of_lt h.2.2.2.2.2.1
                case estep =>
                  rintro k fr2 st2 ⟨rfl, e1, e2, e3, e4, hkn, hE⟩
                  have wk := wrap1 (i := k) (by omega)
                  simp at wk
                  repeat refine Does.seq ?_
                  refine Does.region ?_
                  by_cases hkl : k + 1 < s.n
                  · have hkl' : (k : Int) + 1 < (s.n : Int) := by omega
                    have hkx := vindex_str (P := Tryd.prog) (k := .i64) Tryd.underlying9 hkl
                    simp at hkx
                    have hak := s.at_lt (k + 1)
                    rw [eolL_step (s.drop_at hkl)] at hE
                    by_cases hk10 : s.at (k + 1) = 10
                    · have hk10' : (s.at (k + 1) : Int) = 10 := by omega
                      rw [if_pos (by rw [hk10]; rfl)] at hE
                      simp [e3, e4, hlen, vbin_add, wk, vbin_lss, vbin_neq, hkl', hkx, hk10']
                      repeat refine Does.seq ?_
                      refine Does.condF (by simp) ?_
                      refine Does.exit ?_
                      simp [e1, e2, e3, e4]
                      omega
                    · have hk10' : ¬ (s.at (k + 1) : Int) = 10 := by omega
                      rw [if_neg (show ¬ UInt8.ofNat (s.at (k + 1)) = 10 from fun h => hk10 ((byte_eq hak (by decide)).1 h))] at hE
                      simp [e3, e4, hlen, vbin_add, wk, vbin_lss, vbin_neq, hkl', hkx, hk10']
                      repeat refine Does.seq ?_
                      refine Does.condT (by simp) ?_
                      refine Does.skip ?_
                      simp
                      refine Does.block ?_
                      refine Does.region ?_
                      simp [e4, vbin_add, wk]
                      exact ⟨k + 1, by omega, e1, e2, e3, by simp, by omega, by omega⟩
                  · have hkl' : ¬ (k : Int) + 1 < (s.n : Int) := by omega
                    have hdn : s.toList.drop (k + 1) = [] := by rw [List.drop_eq_nil_iff]; simp; omega
                    rw [hdn] at hE
                    simp only [eolL, List.takeWhile_nil, List.length_nil] at hE
                    simp [e3, e4, hlen, vbin_add, wk, vbin_lss, hkl']
                    repeat refine Does.seq ?_
                    refine Does.condF (by simp) ?_
                    refine Does.exit ?_
                    simp [e1, e2, e3, e4]
                    simp [eolL] at hE ⊢
                    omega
            · have hs3' : ¬ (s.at i : Int) = 35 := by omega
              have hb35 : ¬ UInt8.ofNat (s.at i) = 35 := fun h => hs3 ((byte_eq hab (by decide)).1 h)
              rw [if_neg hb35] at hid
              simp [h0, h3, hix, vbin_eql, hs3']
              repeat refine Does.seq ?_
              refine Does.condF (by simp) ?_
              repeat refine Does.seq ?_
              refine Does.region ?_
              simp
              refine Does.ret ?_
              simp [hds, ← hid]
      · have hlt' : ¬ (i : Int) < (s.n : Int) := by omega
        rw [List.drop_eq_nil_of_le (by simp; omega), idleL] at hid
        simp [h0, h3, hlen, vbin_lss, hlt']
        repeat refine Does.seq ?_
        refine Does.condF (by simp) ?_
        refine Does.exit ?_
        simp [hds, ← hid]
end Go.Vm

namespace Go.Vm
open Go Go.Proofs Go.Lx
attribute [local simp] Oks xOps vwanted isDefer vop kindOf vpure ev evs toV andThen inBlock atTo_some Fr.dsTo Fr.glTo Fr.toNone initFr_at initFr_ds initFr_gl veff traverse tupled vresult V.undef evOpt xDraw xStep

theorem vbin_sadd {P : Program} {kk : Bool} {T : TypeId} {x y : S} (h : x.n + y.n < 1000000000) : vbin P kk .add T (.str x) (.str y) = some (.str (x.app y)) := by
  have : Nat.ble (Nat.add x.n y.n) maxStr = true := Nat.ble_eq_true_of_le (by show x.n + y.n ≤ maxStr; simp only [maxStr]; omega)
  simp only [vbin, this]

theorem nb_of {s : S} (h : s.n = 0 ∨ ∃ h : 0 < s.n, s.at (s.n - 1) ≠ 92) : NB s.toList := by
  unfold NB
  rw [List.getLast?_eq_getElem?, S.len]
  rcases h with h | ⟨h, h2⟩
  · have : s.toList = [] := List.eq_nil_of_length_eq_zero (by simpa using h)
    rw [this]; simp
  · rw [s.toList_at (by omega)]
    intro h3
    exact h2 ((byte_eq (s.at_lt _) (by decide)).1 (Option.some.inj h3))

theorem Oks.cont [Memo] {P : Program} {ops : Array Oper} {l : List Oper} {fr : Fr} {st : St} {Q R : Fr → St → Prop} (h : Oks P ops l fr st Q) (k : ∀ fr' st', Q fr' st' → R fr' st') : Oks P ops l fr st R := by
  unfold Oks at h ⊢
  split at h
  · exact k _ _ h
  · exact h

theorem tokL_le (l : List UInt8) : (tokL l).2.1 ≤ l.length := by
  have hz := zeroL_le l
  unfold tokL
  split
  · exact Nat.zero_le _
  · split
    · simp only; omega
    · split
      · exact hz
      · exact Nat.zero_le _

theorem cutL_p : ∀ (n : Nat) (r : List UInt8), r.length ≤ n → ∀ p, ∀ x ∈ (cutL r p).1, x.p ≤ p + r.length
  | n, [], _, p => by simp [cutL]
  | 0, b :: r, hn, p => by simp at hn
  | n + 1, b :: r, hn, p => by
    simp only [List.length_cons] at hn
    obtain ⟨l1, l2, l3⟩ := stepL_len b r
    rw [cutL_cons]
    intro x hx
    cases hs : stepL b r with
    | bad m => rw [hs] at hx; simp at hx
    | gap m =>
      have := l1 m hs
      rw [hs] at hx
      have := cutL_p n (r.drop (m - 1)) (by simp; omega) _ x hx
      simp only [List.length_drop, List.length_cons] at this ⊢; omega
    | tok k m =>
      have := l2 k m hs
      rw [hs] at hx
      rcases List.mem_cons.1 hx with rfl | hx
      · simp
      · have := cutL_p n (r.drop (m - 1)) (by simp; omega) _ x hx
        simp only [List.length_drop, List.length_cons] at this ⊢; omega

theorem tokL_p (l : List UInt8) : ∀ x ∈ (tokL l).1, x.p ≤ l.length := by
  intro x hx
  unfold tokL at hx
  split at hx
  · simp at hx
  · rcases hc : cutL l 0 with ⟨ts, o⟩
    rw [hc] at hx
    cases o with
    | some e => simp at hx
    | none =>
      simp only at hx
      split at hx
      · simp at hx
      · have := cutL_p _ l (Nat.le_refl _) 0 x (by rw [hc]; exact hx)
        omega

def LawV (v : V) (_st' : St) : Prop := v = .bool true

variable [Memo] [NL]

set_option maxHeartbeats 2000000 in
theorem lawTwo_ok (gl : Gl) (hgl : gl.get 0 = some (opsS.map .str)) (hworks : ∀ st, ihCall (W Tryd.prog) gl (.f 7) [] st = .val (.bool true) st) (st : St) (s t : S) :
    ∃ v st', W Tryd.prog (.call gl 6 [.str s, .str t]) st = .call (.val v st') ∧ LawV v st' := by
  have hk7 : callable Tryd.prog 7 = true := by kernel_rfl
  have hk10 : callable Tryd.prog 10 = true := by kernel_rfl
  have hk13 : callable Tryd.prog 13 = true := by kernel_rfl
  have hls := vlen_str Tryd.underlying9 (s := s)
  have hlt := vlen_str Tryd.underlying9 (s := t)
  refine call_ex (NL.no _ rfl _ _) Tryd.func6 rfl (by kernel_rfl) ?_
  repeat refine Does.seq ?_
  refine Does.region ?_
  simp
  repeat refine Does.seq ?_
  refine Does.region ?_
  by_cases hs8 : 8000 < s.n
  · have hs8' : (8000 : Int) < (s.n : Int) := by omega
    simp [vcall_callable hk7, hworks, hls, vbin_gtr, hs8']
    repeat refine Does.seq ?_
    refine Does.condT (by simp) ?_
    repeat refine Does.seq ?_
    refine Does.region ?_
    simp [vcall_callable hk7, hworks]
    refine Does.ret ?_
    simp
    rfl
  have hs8' : ¬ (8000 : Int) < (s.n : Int) := by omega
  by_cases ht8 : 8000 < t.n
  · have ht8' : (8000 : Int) < (t.n : Int) := by omega
    simp [vcall_callable hk7, hworks, hls, hlt, vbin_gtr, hs8', ht8']
    repeat refine Does.seq ?_
    refine Does.condT (by simp) ?_
    repeat refine Does.seq ?_
    refine Does.region ?_
    simp [vcall_callable hk7, hworks]
    refine Does.ret ?_
    simp
    rfl
  have ht8' : ¬ (8000 : Int) < (t.n : Int) := by omega
  simp [vcall_callable hk7, hworks, hls, hlt, vbin_gtr, hs8', ht8']
  repeat refine Does.seq ?_
  refine Does.condF (by simp) ?_
  refine Does.skip ?_
  simp
  repeat refine Does.seq ?_
  refine Does.region ?_
  obtain ⟨v, st1, hca, xa, ua, rfl, hoa, haa, hla, hk1⟩ := tokens_ok gl hgl st s (by omega)
  have hca := ihCall_W hca
  generalize hA1 : (tokL s.toList).2.1 = A1 at hca
  generalize hA2 : (tokL s.toList).2.2 = A2 at hca
  simp [vcall_callable hk10, hca]
  clear hca
  repeat refine Does.seq ?_
  refine Does.region ?_
  obtain ⟨v, st2, hcb, xb, ub, rfl, hob, hbb, hlb, hk2⟩ := tokens_ok gl hgl st1 t (by omega)
  have hcb := ihCall_W hcb
  generalize hB1 : (tokL t.toList).2.1 = B1 at hcb
  generalize hB2 : (tokL t.toList).2.2 = B2 at hcb
  simp [vcall_callable hk10, hcb]
  clear hcb
  repeat refine Does.seq ?_
  refine Does.region ?_
  by_cases hA0 : A2 = 0
  rotate_left
  · have hA0' : ¬ (A2 : Int) = 0 := by omega
    simp [vbin_neq, hA0', hA0]
    repeat refine Does.seq ?_
    refine Does.condT (by simp [hA0]) ?_
    repeat refine Does.seq ?_
    refine Does.region ?_
    simp
    refine Does.ret ?_
    simp
    rfl
  subst hA0
  by_cases hnb : s.n = 0 ∨ ∃ h : 0 < s.n, s.at (s.n - 1) ≠ 92
  rotate_left
  · have hpos : 0 < s.n := by omega
    have h92 : s.at (s.n - 1) = 92 := by
      rcases Classical.em (s.at (s.n - 1) = 92) with h | h
      · exact h
      · exact absurd (.inr ⟨hpos, h⟩) hnb
    have hpos' : (0 : Int) < (s.n : Int) := by omega
    have hix := vindex_str (P := Tryd.prog) (k := .i64) Tryd.underlying9 (s := s) (i := s.n - 1) (by omega)
    have hw : IntKind.i64.wrap ((s.n : Int) - 1) = ((s.n - 1 : Nat) : Int) := by rw [wrap_i64 (by omega) (by omega)]; omega
    rw [h92] at hix
    simp [vbin_neq, hls, vbin_gtr, hpos', hpos, vbin_sub, hw, hix, vbin_eql]
    repeat refine Does.seq ?_
    refine Does.condT (by simp [hpos]) ?_
    repeat refine Does.seq ?_
    refine Does.region ?_
    simp
    refine Does.ret ?_
    simp
    rfl
  have hnbl := nb_of hnb
  refine Oks.cont (Q := fun fr st' => st' = st2 ∧ Fr.at fr 54 = .bool false ∧ fr.ds = [] ∧ fr.gl = gl ∧ Fr.at fr 0 = .str s ∧ Fr.at fr 1 = .str t ∧ Fr.at fr 5 = xa ∧ Fr.at fr 8 = xb ∧ Fr.at fr 9 = .int .i64 (B1 : Int) ∧ Fr.at fr 10 = .int .i64 (B2 : Int)) ?r5 ?rest
  case r5 =>
    rcases hnb with h0 | ⟨hpos, h92⟩
    · have hpos' : ¬ (0 : Int) < (s.n : Int) := by omega
      simp [vbin_neq, hls, vbin_gtr, hpos', h0]
    · have hpos' : (0 : Int) < (s.n : Int) := by omega
      have hix := vindex_str (P := Tryd.prog) (k := .i64) Tryd.underlying9 (s := s) (i := s.n - 1) (by omega)
      have hw : IntKind.i64.wrap ((s.n : Int) - 1) = ((s.n - 1 : Nat) : Int) := by rw [wrap_i64 (by omega) (by omega)]; omega
      have h92' : ¬ (s.at (s.n - 1) : Int) = 92 := by omega
      simp [vbin_neq, hls, vbin_gtr, hpos', hpos, vbin_sub, hw, hix, vbin_eql, h92', h92]
  case rest =>
  rintro fr st' ⟨hst', h54, hds, hg, h0, h1, h5, h8, h9, h10⟩
  rw [hst']
  simp
  repeat refine Does.seq ?_
  refine Does.condF (by simp [h54]) ?_
  refine Does.skip ?_
  simp
  repeat refine Does.seq ?_
  refine Does.region ?_
  have hn10 : (S.ofList [10]).n = 1 := rfl
  have hj1 := vbin_sadd (P := Tryd.prog) (kk := true) (T := 9) (x := s) (y := S.ofList [10]) (by rw [hn10]; omega)
  have hj2 := vbin_sadd (P := Tryd.prog) (kk := false) (T := 9) (x := s.app (S.ofList [10])) (y := t) (by show s.n + 1 + t.n < _; omega)
  have hjn : ((s.app (S.ofList [10])).app t).n = s.n + 1 + t.n := rfl
  have hjl : ((s.app (S.ofList [10])).app t).toList = s.toList ++ 10 :: t.toList := by
    rw [S.toList_app, S.toList_app, S.toList_ofList]; simp
  generalize (s.app (S.ofList [10])).app t = j at hj2 hjn hjl
  obtain ⟨v, st3, hcc, xc, uc, rfl, hoc, hcc2, hlc, hk3⟩ := tokens_ok gl hgl st2 j (by omega)
  have hcc := ihCall_W hcc
  generalize hC1 : (tokL j.toList).2.1 = C1 at hcc
  generalize hC2 : (tokL j.toList).2.2 = C2 at hcc
  obtain ⟨two1, two2⟩ := two s.toList t.toList (by simp; omega) (by simp; omega) hA2 hnbl
  rw [← hjl, hB1, hB2, hC1, hC2, S.len] at two1
  rw [← hjl, hB2, hC2, S.len] at two2
  simp [h0, h1, hg, isK, hj1, hj2, vcall_callable hk10, hcc]
  clear hcc
  repeat refine Does.seq ?_
  refine Does.region ?_
  by_cases hB0 : B2 = 0
  rotate_left
  · have hB0' : ¬ (B2 : Int) = 0 := by omega
    obtain ⟨e1, e2⟩ := two1 hB0
    have hb1 : B1 ≤ t.n := by
      rw [← hB1]
      have := tokL_le t.toList
      simpa using this
    have w1 : IntKind.i64.wrap ((s.n : Int) + 1) = (s.n : Int) + 1 := wrap_i64 (by omega) (by omega)
    have w2 : IntKind.i64.wrap ((s.n : Int) + 1 + (B1 : Int)) = (s.n : Int) + 1 + (B1 : Int) := wrap_i64 (by omega) (by omega)
    have e2' : (C1 : Int) = (s.n : Int) + 1 + (B1 : Int) := by omega
    simp [h10, vbin_neq, hB0', hB0]
    repeat refine Does.seq ?_
    refine Does.condT (by simp [hB0]) ?_
    repeat refine Does.seq ?_
    refine Does.region ?_
    simp [h0, h9, h10, e1, hls, vbin_eql, vbin_add, w1, w2, e2']
    refine Does.ret ?_
    simp [hds]
    rfl
  subst hB0
  obtain ⟨e1, e2⟩ := two2 rfl
  subst e1
  simp [h10, vbin_neq]
  repeat refine Does.seq ?_
  refine Does.condF (by simp) ?_
  refine Does.skip ?_
  simp
  repeat refine Does.seq ?_
  refine Does.region ?_
  -- a = append(a, a token)
  have hia : In st.ctr st1.ctr st3 xa ua := (hoa.inn).stay (Nat.le_trans hk2.ctr hk3.ctr) (fun i _ hi => by rw [hk3.box i (by have := hk2.ctr; omega), hk2.box i hi])
  have hib : In st1.ctr st2.ctr st3 xb ub := (hob.inn).stay hk3.ctr (fun i _ hi => hk3.box i hi)
  have hic : In st2.ctr st3.ctr st3 xc uc := hoc.inn
  have hc12 := hk1.ctr
  have hc22 := hk2.ctr
  have hc32 := hk3.ctr
  have hbt := build_tok 1 s.n (S.ofList [10])
  have hbs := build_toks 1 s.n (S.ofList [10])
  have o1 : ([.int .u8 1, .str (S.ofList [10]), .int .i64 (s.n : Int)] : List V).all oneC = true := rfl
  have hkn : Keep st3 { ctr := st3.ctr + 1, box := st3.box.put st3.ctr (.cells [.int .u8 1, .str (S.ofList [10]), .int .i64 (s.n : Int)] 31 true (some 0)) } := (Keep.refl st3).new _
  have hla' : ua.length ≤ 8000 := by simp at hla; omega
  have hlb' : ub.length ≤ 8000 := by simp at hlb; omega
  obtain ⟨za, st4, hap, hia4, hct4, hfm4⟩ := In.app (m := [⟨1, S.ofList [10], s.n⟩]) (y := .ms st3.ctr 0 1 3 (some 1)) (hia.stay hkn.ctr (fun i _ hi => hkn.box i (by omega))) (Nat.le_trans (by omega) hkn.ctr)
    (src_one (x := ⟨1, S.ofList [10], s.n⟩) (fl := true) (by simp [Tr.get_put, Tk.cells]) _) (by simp; omega) (by simp)
  have hct4' : st3.ctr + 1 ≤ st4.ctr := hct4
  have hib4 : In st1.ctr st2.ctr st4 xb ub := hib.stay (by omega) (fun i hi1 hi2 => by rw [hfm4 i (by show i < st3.ctr + 1; omega) (by omega), hkn.box i (by omega)])
  have hic4 : In st2.ctr st3.ctr st4 xc uc := hic.stay (by omega) (fun i hi1 hi2 => by rw [hfm4 i (by show i < st3.ctr + 1; omega) (by omega), hkn.box i (by omega)])
  have hia4' : In (st3.ctr + 1) st4.ctr st4 za (ua ++ [⟨1, S.ofList [10], s.n⟩]) := hia4
  simp [h0, h5, hls, evParts, hbt, valloc, hbs, o1, mkRef, vact, u25, hap]
  clear hap hia hib hic hkn hia4 hfm4 hct4
  repeat refine Does.seq ?_
  refine Does.region ?_
  simp
  refine Does.mono (Q := fun e fr' st' => e = AE.normal ∧ st4.ctr ≤ st'.ctr ∧ fr'.ds = [] ∧ fr'.gl = gl ∧ Fr.at fr' 5 = za ∧ Fr.at fr' 8 = xb ∧ Fr.at fr' 11 = xc ∧ Fr.at fr' 13 = .int .i64 0 ∧
      In st2.ctr st3.ctr st' xc uc ∧ In (st3.ctr + 1) st4.ctr st' za (ua ++ [⟨1, S.ofList [10], s.n⟩]) ∧ ∃ ls, In st1.ctr st2.ctr st' xb ls ∧ ls.map Tk.tok = (ub.map Tk.tok).map (Tok.up (s.n + 1))) ?loop ?tail
  case tail =>
    rintro e fr' st5 ⟨rfl, hct5, hds, hg, h5, h8, h11, h13, hic5, hia5, ls, hib5, hls5⟩
    simp
    repeat refine Does.seq ?_
    refine Does.region ?_
    have hll : ls.length = ub.length := by simpa using congrArg List.length hls5
    have hmm : (ua ++ [(⟨1, S.ofList [10], s.n⟩ : Tk)] ++ ls).map Tk.tok = uc.map Tk.tok := by
      rw [hcc2, e2]
      simp only [List.map_append, List.map_cons, List.map_nil, List.append_assoc, List.cons_append, List.nil_append]
      rw [hls5, haa, hbb]
      congr 2
      simp only [Tk.tok, S.toList_ofList]
    have hcl : uc.length = ua.length + 1 + ls.length := by
      have := congrArg List.length hmm
      simp at this; omega
    have hfin : ∃ z st6, vappend Tryd.prog st5 25 za xb = some (z, st6) ∧ (∃ lo, Ot lo st6 z (ua ++ [⟨1, S.ofList [10], s.n⟩] ++ ls)) ∧ ∃ lo, Ot lo st6 xc uc := by
      by_cases hl0 : ls = []
      · subst hl0
        exact ⟨za, st5, hia5.1.app0 hib5.1.src, ⟨_, by rw [List.append_nil]; exact hia5.1⟩, _, hic5.1⟩
      · obtain ⟨z, st6, q1, q2, q3, q4⟩ := In.app hia5 hct5 hib5.1.src (by simp; omega) hl0
        exact ⟨z, st6, q1, ⟨_, q2.1⟩, _, (hic5.stay q3 (fun i hi1 hi2 => q4 i (by omega) (by omega))).1⟩
    obtain ⟨z, st6, hap, ⟨lo1, hz⟩, lo2, hc6⟩ := hfin
    obtain ⟨v, st7, hcall, rfl, hk7'⟩ := same_ok gl st6 lo2 lo1 xc z uc _ hc6 hz (by omega)
    have hcall := ihCall_W hcall
    rw [decide_eq_true hmm.symm] at hcall
    simp [h5, h8, h11, h13, hg, vbin_eql, vact, u25, hap, vcall_callable hk13, hcall]
    refine Does.ret ?_
    simp [hds]
    rfl
  case loop =>
    refine Does.block (Does.up ub.length (fun i fr' st' => st4.ctr ≤ st'.ctr ∧ fr'.ds = [] ∧ fr'.gl = gl ∧ Fr.at fr' 0 = .str s ∧ Fr.at fr' 5 = za ∧ Fr.at fr' 8 = xb ∧ Fr.at fr' 11 = xc ∧ Fr.at fr' 13 = .int .i64 0 ∧ Fr.at fr' 14 = .int .i64 (i : Int) ∧ i ≤ ub.length ∧
      In st2.ctr st3.ctr st' xc uc ∧ In (st3.ctr + 1) st4.ctr st' za (ua ++ [⟨1, S.ofList [10], s.n⟩]) ∧ ∃ ls, In st1.ctr st2.ctr st' xb ls ∧ ls.length = ub.length ∧ ls.map Tk.tok = ((ub.take i).map Tk.tok).map (Tok.up (s.n + 1)) ++ (ub.drop i).map Tk.tok) 0 ?init ?bound ?step)
    case init => exact ⟨Nat.le_refl _, by simp [hds], by simp [hg], by simp [h0], by simp, by simp [h8], by simp, by simp, by simp, Nat.zero_le _, hic4, hia4', ub, hib4, rfl, by simp⟩
    case bound => exact fun i fr st' h => h.2.2.2.2.2.2.2.2.2.1
    case step =>
      clear hds hg h0 h1 h5 h8 h9 h10
      rintro i fr2 st5 ⟨hct5, hds, hg, h0, h5, h8, h11, h13, h14, hi, hic5, hia5, ls, hib5, hll, hmm⟩
      have hlx := hib5.1.len
      rw [hll] at hlx
      repeat refine Does.seq ?_
      refine Does.region ?_
      by_cases hil : i < ub.length
      · have hil' : (i : Int) < (ub.length : Int) := by omega
        have hp : (ls.getD i ⟨0, ⟨0, 0⟩, 0⟩).tok = ub[i].tok := by
          have h := congrArg (fun x => x[i]?) hmm
          simp only [List.getElem?_map] at h
          rw [List.getElem?_append_right (by simp; omega)] at h
          simp only [List.length_map, List.length_take, Nat.min_eq_left (Nat.le_of_lt hil), Nat.sub_self, List.getElem?_map, List.getElem?_drop, Nat.add_zero] at h
          rw [List.getElem?_eq_getElem (by omega), List.getElem?_eq_getElem hil] at h
          rw [List.getD_eq_getElem?_getD, List.getElem?_eq_getElem (by omega)]
          exact Option.some.inj h
        have hpb : (ls.getD i ⟨0, ⟨0, 0⟩, 0⟩).p ≤ 8000 := by
          have h1 := congrArg Tok.p hp
          simp only [Tk.tok] at h1
          rw [h1]
          have hin : ub[i].tok ∈ (tokL t.toList).1 := by rw [← hbb]; exact List.mem_map_of_mem (List.getElem_mem hil)
          have := tokL_p t.toList _ hin
          simp [Tk.tok] at this; omega
        obtain ⟨id, g1, g2, g3, st6, g4, g5, g6, g7, g8⟩ := hib5.1.setP (i := i) (by omega) ((ls.getD i ⟨0, ⟨0, 0⟩, 0⟩).p + s.n + 1)
        have hlt2 : id < st2.ctr := by
          rcases hib5.2 with hx | ⟨id', n', c', hx, hlt⟩
          · have := g2 .i64
            rw [hx] at this
            simp [vindexAddr] at this
          · have := g2 .i64
            rw [hx] at this
            simp only [vindexAddr, u25, asNat_cast, z31] at this
            split at this
            · split at this
              · simp at this; omega
              · cases this
            · cases this
        generalize hee : ls.getD i ⟨0, ⟨0, 0⟩, 0⟩ = e at g3 g5 hp hpb g4
        have w1 : IntKind.i64.wrap ((e.p : Int) + (s.n : Int)) = (e.p : Int) + (s.n : Int) := wrap_i64 (by omega) (by omega)
        have w2 : IntKind.i64.wrap ((e.p : Int) + (s.n : Int) + 1) = (e.p : Int) + (s.n : Int) + 1 := wrap_i64 (by omega) (by omega)
        have t2 := tfld2 id (i * 3)
        have g2' := g2 .i64
        simp at g4
        simp [h8, h14, hlx, vbin_lss, hil']
        repeat refine Does.seq ?_
        refine Does.condT (by simp) ?_
        refine Does.skip ?_
        simp
        repeat refine Does.seq ?_
        refine Does.block ?_
        refine Does.region ?_
        simp [h0, h8, h14, g2', t2, g3, hls, vbin_add, w1, w2, vact, g4]
        refine Does.region ?_
        have wi := wrap1 (i := i) (by omega)
        simp at wi
        simp [h14, vbin_add, wi]
        refine ⟨i + 1, by omega, by omega, hds, hg, h0, h5, h8, h11, h13, by simp, by omega, hic5.stay (by omega) (fun j hj1 hj2 => g7 j (by omega)), hia5.stay (by omega) (fun j hj1 hj2 => g7 j (by omega)), _, ⟨g5, hib5.2⟩, by simpa using hll, ?_⟩
        rw [List.map_set, hmm]
        have htk : ({ e with p := e.p + s.n + 1 } : Tk).tok = (ub[i].tok).up (s.n + 1) := by
          rw [← hp]
          simp only [Tk.tok, Tok.up, Nat.add_assoc]
        rw [htk]
        rw [List.set_append_right _ _ (by simp only [List.length_map, List.length_take]; omega)]
        simp only [List.length_map, List.length_take, Nat.min_eq_left (Nat.le_of_lt hil), Nat.sub_self]
        rw [List.drop_eq_getElem_cons hil, List.map_cons, List.set_cons_zero]
        rw [List.take_add_one, List.getElem?_map, List.getElem?_eq_getElem hil]
        simp
      · have hil' : ¬ (i : Int) < (ub.length : Int) := by omega
        have hie : i = ub.length := by omega
        subst hie
        simp [h8, h14, hlx, vbin_lss]
        repeat refine Does.seq ?_
        refine Does.condF (by simp) ?_
        refine Does.exit ?_
        simp only [inBlock, if_true, andThen]
        refine ⟨trivial, hct5, by simp [hds], by simp [hg], by simp [h5], by simp [h8], by simp [h11], by simp [h13], hic5, hia5, ls, hib5, ?_⟩
        rw [hmm]; simp
end Go.Vm

namespace Go.Vm
open Go Go.Proofs Go.Lx

noncomputable def lexGl : Gl := (.nil : Gl).put 0 (opsS.map .str)
theorem lexGl_get : lexGl.get 0 = some (opsS.map .str) := by simp [lexGl, Tr.get_put]
theorem lexGl_free : lexGl.allB (fun l => l.all (freeV true 50)) = true := by kernel_rfl

abbrev worksEnt : Ent := ⟨7, [], .bool true⟩

theorem works_mixed : Tryd.prog.follows .mixedOrders = true := by kernel_rfl

theorem works_ent : EntOk Tryd.prog lexGl worksEnt :=
  entOk_of_run works_mixed rules_nil lexGl_free (n := 1000000) rfl rfl (by kernel_rfl)

noncomputable abbrev worksMemo : Memo := memoOf lexGl [worksEnt.rule]

theorem works_rules : ∀ e ∈ [worksEnt.rule], RuleOk Tryd.prog lexGl e := rules_cons works_ent.rule rules_nil

theorem works_nl : @NL worksMemo := by
  letI : Memo := worksMemo
  refine ⟨fun f hf a st => ?_⟩
  show (mfF f [worksEnt.rule]).run a st = none
  have : Nat.beq 7 f = false := by
    cases h : Nat.beq 7 f with
    | false => rfl
    | true =>
      have := Nat.eq_of_beq_eq_true h
      subst this
      cases hf
  simp only [mfF, Ent.rule, this]
  rfl

theorem works_hit (st : St) : @ihCall (@W worksMemo Tryd.prog) lexGl (.f 7) [] st = .val (.bool true) st := by
  letI : Memo := worksMemo
  refine ihCall_W (W_of rfl (.step ⟨0, fun m _ => ?_⟩))
  rfl

end Go.Vm
