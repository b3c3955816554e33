/- A slice of tokens of one's own that grows; Same. -/
import Derived.Test.YtedkiipdgffoaaaDoorLxT
namespace Go.Vm
open Go Go.Proofs Go.Lx
attribute [local simp] Oks xOps vwanted isDefer vop kindOf vpure ev evs toV andThen inBlock atTo_some Fr.dsTo Fr.glTo Fr.toNone initFr_at initFr_ds initFr_gl veff traverse tupled vresult V.undef evOpt xDraw xStep

/-- a token, as the program has it -/
structure Tk where
  k : Nat
  t : S
  p : Nat

def Tk.cells (x : Tk) : List V := [.int .u8 (x.k : Int), .str x.t, .int .i64 (x.p : Int)]
def Tk.tok (x : Tk) : Tok := ⟨x.k, x.t.toList, x.p⟩
def toksV (l : List Tk) : List V := l.flatMap Tk.cells

theorem toksV_len (l : List Tk) : (toksV l).length = l.length * 3 := by
  induction l with
  | nil => rfl
  | cons a l ih => simp only [toksV, List.flatMap_cons, List.length_append] at ih ⊢; rw [ih]; simp [Tk.cells]; omega
theorem toksV_app (l m : List Tk) : toksV (l ++ m) = toksV l ++ toksV m := by simp [toksV]
theorem toksV_one (l : List Tk) : (toksV l).all oneC = true := by
  induction l with
  | nil => rfl
  | cons a l ih => simp only [toksV, List.flatMap_cons, List.all_append] at ih ⊢; rw [ih]; rfl

theorem toksV_sub : ∀ (l : List Tk) (i : Nat), i < l.length → sub (toksV l) (i * 3) 3 = (l.getD i ⟨0, ⟨0, 0⟩, 0⟩).cells
  | [], i, h => by simp at h
  | a :: l, 0, _ => rfl
  | a :: l, i + 1, h => by
    have ih := toksV_sub l i (by simpa using h)
    have e : toksV (a :: l) = a.cells ++ toksV l := rfl
    have h3 : a.cells.length = 3 := rfl
    unfold sub at ih ⊢
    rw [e, show (i + 1) * 3 = a.cells.length + i * 3 by rw [h3]; omega, List.drop_append]
    simp only [Nat.add_sub_cancel_left, List.drop_of_length_le (Nat.le_add_right ..), List.nil_append]
    rw [ih]
    rfl

/-- a slice of tokens in memory of its own, from a number on -/
inductive Ot (lo : Nat) (st : St) : V → List Tk → Prop
  | nils : Ot lo st .nils []
  | ms (id : Nat) (cap : Option Nat) (fl : Bool) (l : List Tk) (hb : st.box.get id = some (.cells (toksV l) 31 fl (some 0))) (h1 : lo ≤ id) (h2 : id < st.ctr) (hc : cap = none ∨ cap = some l.length) : Ot lo st (.ms id 0 l.length 3 cap) l

theorem Ot.keep {lo : Nat} {st st' : St} (h : Keep st st') {x : V} {l : List Tk} (hv : Ot lo st x l) : Ot lo st' x l := by
  cases hv with
  | nils => exact .nils
  | ms id cap fl l hb h1 h2 hc => exact .ms id cap fl l (by rw [h.box id h2]; exact hb) h1 (Nat.lt_of_lt_of_le h2 h.ctr) hc

theorem Ot.one {lo : Nat} {st : St} {x : V} {l : List Tk} (h : Ot lo st x l) : oneC x = true := by cases h <;> rfl
theorem Ot.veq {lo : Nat} {st : St} {x : V} {l : List Tk} (h : Ot lo st x l) : veq 300 x x = true := by cases h <;> simp [Go.Vm.veq]

theorem Ot.weaken {lo lo' : Nat} (h : lo' ≤ lo) {st : St} {x : V} {l : List Tk} (hv : Ot lo st x l) : Ot lo' st x l := by
  cases hv with
  | nils => exact .nils
  | ms id cap fl l hb h1 h2 hc => exact .ms id cap fl l hb (Nat.le_trans h h1) h2 hc

theorem Ot.put {lo : Nat} {st : St} {x : V} {l : List Tk} {id : Nat} (hid : id < lo) {b : Bx} (hv : Ot lo st x l) : Ot lo { st with box := st.box.put id b } x l := by
  cases hv with
  | nils => exact .nils
  | ms i cap fl l hb h1 h2 hc => exact .ms i cap fl l (by rw [Tr.get_put, if_neg (by omega)]; exact hb) h1 h2 hc

theorem u25 : Tryd.prog.underlying 25 = some (.slice 31) := Tryd.underlying25
theorem z31 : sizeT Tryd.prog 31 = some 3 := by kernel_rfl
theorem a31 : isAggT Tryd.prog 31 = some true := by kernel_rfl
theorem z25 : sizeT Tryd.prog 25 = some 1 := by kernel_rfl
theorem a25 : isAggT Tryd.prog 25 = some false := by kernel_rfl

theorem Ot.cells {lo : Nat} {st : St} {x : V} {l : List Tk} (hv : Ot lo st x l) : sliceCells st 3 x = some (toksV l, l.length) := by
  cases hv with
  | nils => rfl
  | ms id cap fl l hb h1 h2 hc =>
    have e : Nat.ble (0 + l.length * 3) (toksV l).length = true := Nat.ble_eq_true_of_le (by rw [toksV_len]; omega)
    simp only [sliceCells, hb, e]
    congr 2
    unfold sub
    rw [List.drop_zero, List.take_of_length_le (by rw [toksV_len]; omega)]

theorem Ot.len {lo : Nat} {st : St} {x : V} {l : List Tk} (hv : Ot lo st x l) : vlen Tryd.prog 25 x = some (.int .i64 (l.length : Int)) := by
  cases hv <;> simp [vlen, u25]

theorem Ot.get {lo : Nat} {st : St} {x : V} {l : List Tk} (hv : Ot lo st x l) {i : Nat} (hi : i < l.length) {k : IntKind} :
    ∃ a, vindexAddr Tryd.prog 25 x (.int k (i : Int)) = some a ∧ vload Tryd.prog st 31 a = some (.agg (l.getD i ⟨0, ⟨0, 0⟩, 0⟩).cells) ∧ ∃ id, a = .ptr id (i * 3) ∧ lo ≤ id := by
  have hb : Nat.blt i l.length = true := by rw [blt_dec]; exact decide_eq_true hi
  cases hv with
  | nils => simp at hi
  | ms id cap fl l hbx h1 h2 hc =>
    refine ⟨.ptr id (0 + i * 3), by simp only [vindexAddr, u25, asNat_cast, z31, hb, Nat.beq_refl], ?_, id, by simp, h1⟩
    have e : Nat.ble (i * 3 + 3) (toksV l).length = true := Nat.ble_eq_true_of_le (by rw [toksV_len]; omega)
    simp only [vload, hbx, vpart, a31, z31, Nat.zero_add, e, toksV_sub l i hi]

/-- append(x, y...): what is below 'lo' stays -/
theorem Ot.app {lo : Nat} {st : St} {x y : V} {l m : List Tk} (hlo : lo ≤ st.ctr) (hx : Ot lo st x l) (hy : srcCells st 3 y = some (toksV m, m.length)) (hl : l.length + m.length < 1000000) (hm : m ≠ []) :
    ∃ z st', vappend Tryd.prog st 25 x y = some (z, st') ∧ Ot lo st' z (l ++ m) ∧ st.ctr ≤ st'.ctr ∧ (∀ i, i < lo → st'.box.get i = st.box.get i) := by
  have i31 : Tryd.prog.info? 31 = some Tryd.t31 := by kernel_rfl
  have t3 : Tryd.t31.size = 3 := rfl
  have tb : Tryd.t31.bytes = 32 := rfl
  have zv : zeroT Tryd.prog 31 = some (.agg [.int .u8 0, .str ⟨0, 0⟩, .int .i64 0]) := by kernel_rfl
  have hold : sliceCells st 3 x = some (toksV l, l.length) := hx.cells
  have hm0 : Nat.beq m.length 0 = false := by
    cases m with
    | nil => exact absurd rfl hm
    | cons a b => rfl
  have hml : 0 < m.length := List.length_pos_iff.2 hm
  have e1 : Nat.ble ((l.length + m.length) * Tryd.t31.bytes) maxBytes = true := Nat.ble_eq_true_of_le (by rw [tb]; simp only [maxBytes]; omega)
  have e2 : Nat.ble (l.length + m.length) maxBytes = true := Nat.ble_eq_true_of_le (by simp only [maxBytes]; omega)
  have e3 : (toksV m).all oneC = true := toksV_one m
  have e4 : Nat.beq (V.agg [.int .u8 0, .str ⟨0, 0⟩, .int .i64 0]).cells.length 3 = true := rfl
  have e5 : Nat.beq 3 0 = false := rfl
  have fresh : ∀ (bx : Tr Bx), Ot st.ctr { ctr := st.ctr + 1, box := bx.put st.ctr (.cells (toksV l ++ toksV m) 31 false (some 0)) } (.ms st.ctr 0 (l.length + m.length) 3 none) (l ++ m) := fun bx => by
    have := Ot.ms (lo := st.ctr) (st := { ctr := st.ctr + 1, box := bx.put st.ctr (.cells (toksV (l ++ m)) 31 false (some 0)) }) st.ctr none false (l ++ m) (by simp [Tr.get_put]) (Nat.le_refl _) (Nat.lt_succ_self _) (.inl rfl)
    simpa [toksV_app] using this
  cases hx with
  | nils =>
    refine ⟨.ms st.ctr 0 ([].length + m.length) 3 none, { ctr := st.ctr + 1, box := st.box.put st.ctr (.cells (toksV [] ++ toksV m) 31 false (some 0)) }, ?_, (fresh st.box).weaken hlo, Nat.le_succ _, fun i hi => by rw [Tr.get_put, if_neg (by omega)]⟩
    simp only [vappend, u25, i31, zv, t3, hy, hold, hm0, e1, e2, e3, e4, e5]
    rfl
  | ms id cap fl l hb h1 h2 hc =>
    rcases hc with rfl | rfl
    · have e6 : Nat.ble (0 + (l.length + m.length) * 3) (toksV l).length = false := by
        cases h : Nat.ble (0 + (l.length + m.length) * 3) (toksV l).length with
        | false => rfl
        | true =>
          have := Nat.le_of_ble_eq_true h
          rw [toksV_len] at this; omega
      have e7 : Nat.ble 0 (0 + l.length * 3) = true := Nat.ble_eq_true_of_le (Nat.zero_le _)
      refine ⟨.ms st.ctr 0 (l.length + m.length) 3 none, { ctr := st.ctr + 1, box := (st.box.del id).put st.ctr (.cells (toksV l ++ toksV m) 31 false (some 0)) }, ?_, (fresh _).weaken hlo, Nat.le_succ _, fun i hi => by rw [Tr.get_put, if_neg (by omega), Tr.get_del, if_neg (by omega)]⟩
      simp only [vappend, u25, i31, zv, t3, hy, hold, hm0, e1, e2, e3, e4, e5, hb, roomOf, e6, fzOk, e7, Nat.beq_refl, Bool.and_self]
      simp [fzSub]
    · have e6 : Nat.ble (l.length + m.length) l.length = false := by
        cases h : Nat.ble (l.length + m.length) l.length with
        | false => rfl
        | true =>
          have := Nat.le_of_ble_eq_true h
          omega
      refine ⟨.ms st.ctr 0 (l.length + m.length) 3 none, { ctr := st.ctr + 1, box := st.box.put st.ctr (.cells (toksV l ++ toksV m) 31 false (some 0)) }, ?_, (fresh _).weaken hlo, Nat.le_succ _, fun i hi => by rw [Tr.get_put, if_neg (by omega)]⟩
      simp only [vappend, u25, i31, zv, t3, hy, hold, hm0, e1, e2, e3, e4, e5, hb, roomOf, e6, Nat.beq_refl, Bool.and_self]

theorem build_tok (k p : Int) (s : S) : vbuild Tryd.prog 31 [(0, .int .u8 k), (1, .str s), (2, .int .i64 p)] = some (.agg [.int .u8 k, .str s, .int .i64 p]) := by kernel_rfl
theorem build_toks (k p : Int) (s : S) : vbuildSlice Tryd.prog 25 1 [(0, .agg [.int .u8 k, .str s, .int .i64 p])] = some ([.int .u8 k, .str s, .int .i64 p], 31, 3) := by kernel_rfl

/-- the slice of one token that an append is handed -/
theorem src_one {st : St} {id : Nat} {x : Tk} {fl : Bool} (h : st.box.get id = some (.cells x.cells 31 fl (some 0))) (cap : Option Nat) : srcCells st 3 (.ms id 0 1 3 cap) = some (toksV [x], [x].length) := by
  simp only [srcCells, sliceCells, h]
  rfl

theorem Tk.tok_eq {x y : Tk} : (decide ((x.k : Int) = (y.k : Int)) && x.t.same y.t && decide ((x.p : Int) = (y.p : Int))) = decide (x.tok = y.tok) := by
  rw [S.same_eq, Bool.eq_iff_iff]
  simp only [Tk.tok, Bool.and_eq_true, decide_eq_true_eq, beq_iff_eq, Tok.mk.injEq, and_assoc]
  exact and_congr (by omega) (and_congr Iff.rfl (by omega))

variable [Memo] [NL]

theorem same_ok (gl : Gl) (st : St) (lo lo' : Nat) (x y : V) (l m : List Tk) (hx : Ot lo st x l) (hy : Ot lo' st y m) (hl : l.length < 1000000) :
    ∃ v st', W Tryd.prog (.call gl 13 [x, y]) st = .call (.val v st') ∧ v = .bool (decide (l.map Tk.tok = m.map Tk.tok)) ∧ Keep st st' := by
  have lx := hx.len
  have ly := hy.len
  refine call_ex (NL.no _ rfl _ _) Tryd.func13 rfl (by kernel_rfl) ?_
  repeat refine Does.seq ?_
  refine Does.region ?_
  simp
  repeat refine Does.seq ?_
  refine Does.region ?_
  by_cases hlm : l.length = m.length
  rotate_left
  · have hlm' : ¬ (l.length : Int) = (m.length : Int) := by omega
    have hne : ¬ l.map Tk.tok = m.map Tk.tok := fun h => hlm (by simpa using congrArg List.length h)
    simp [lx, ly, vbin_neq, hlm']
    repeat refine Does.seq ?_
    refine Does.condT (by simp) ?_
    repeat refine Does.seq ?_
    refine Does.region ?_
    simp
    refine Does.ret ?_
    simp [hne, Keep.refl]
  · have hlm' : (l.length : Int) = (m.length : Int) := by omega
    simp [lx, ly, vbin_neq, hlm']
    repeat refine Does.seq ?_
    refine Does.condF (by simp) ?_
    refine Does.skip ?_
    simp
    repeat refine Does.seq ?_
    refine Does.region ?_
    simp
    refine Does.mono (Q := fun e fr' st' => Keep st st' ∧ fr'.ds = [] ∧ ((e = AE.ret ∧ Fr.at fr' 4 = .bool false ∧ l.map Tk.tok ≠ m.map Tk.tok) ∨ (e = AE.normal ∧ l.map Tk.tok = m.map Tk.tok))) ?loop ?tail
    case tail =>
      rintro e fr' st' ⟨hk, hds, ⟨rfl, h4, hne⟩ | ⟨rfl, heq⟩⟩
      · simp [hds, hk, h4, hne]
      · simp
        repeat refine Does.seq ?_
        refine Does.region ?_
        simp
        refine Does.ret ?_
        simp [hds, hk, heq]
    case loop =>
      refine Does.block (Does.up l.length (fun i fr st' => Keep st st' ∧ fr.ds = [] ∧ Fr.at fr 0 = x ∧ Fr.at fr 1 = y ∧ Fr.at fr 5 = .int .i64 (i : Int) ∧ i ≤ l.length ∧ (l.map Tk.tok).take i = (m.map Tk.tok).take i) 0 ?init ?bound ?step)
      case init => exact ⟨.refl st, by simp, by simp, by simp, by simp, Nat.zero_le _, by simp⟩
      case bound => exact fun i fr st' h => h.2.2.2.2.2.1
      case step =>
        rintro i fr st' ⟨hk, hds, h0, h1, h5, hi, ht⟩
        repeat refine Does.seq ?_
        refine Does.region ?_
        by_cases hlt : i < l.length
        · have hlt' : (i : Int) < (l.length : Int) := by omega
          have hltm : (i : Int) < (m.length : Int) := by omega
          simp [h0, h5, lx, vbin_lss, hlt']
          repeat refine Does.seq ?_
          refine Does.condT (by simp) ?_
          refine Does.skip ?_
          simp
          repeat refine Does.seq ?_
          refine Does.block ?_
          repeat refine Does.seq ?_
          refine Does.draw (b := [0, 0, 3, 7, 0, 0, 48, 112, 255]) (l := [0, 1, 2, 3, 4, 5, 6, 7, 8]) (by kernel_rfl) (by kernel_rfl) (by kernel_rfl) ?_
          have hkt := hk.tick 9
          obtain ⟨p, g1, g2, _⟩ := (hx.keep hkt).get hlt (k := .i64)
          obtain ⟨q, g3, g4, _⟩ := (hy.keep hkt).get (show i < m.length by omega) (k := .i64)
          generalize hex : l.getD i ⟨0, ⟨0, 0⟩, 0⟩ = ex at g2
          generalize hey : m.getD i ⟨0, ⟨0, 0⟩, 0⟩ = ey at g4
          have hne := tok_neq false ex.k ey.k ex.p ey.p ex.t ey.t
          rw [Tk.tok_eq] at hne
          have hvx : ∀ e : Tk, veq 300 (.agg e.cells) (.agg e.cells) = true := fun e => by simp [Tk.cells, veq, veqs]
          simp only [Tk.cells] at g2 g4 hvx
          have hvx1 := hvx ex
          have hvx2 := hvx ey
          simp [sameIn, h0, h1, h5, g1, g2, g3, g4, hvx1, hvx2, isK, hne]
          repeat refine Does.seq ?_
          have gx : (l.map Tk.tok)[i]? = some ex.tok := by
            rw [List.getElem?_map, List.getElem?_eq_getElem hlt, ← hex, List.getD_eq_getElem?_getD, List.getElem?_eq_getElem hlt]; rfl
          have gy : (m.map Tk.tok)[i]? = some ey.tok := by
            rw [List.getElem?_map, List.getElem?_eq_getElem (by omega), ← hey, List.getD_eq_getElem?_getD, List.getElem?_eq_getElem (by omega)]; rfl
          by_cases heq : ex.tok = ey.tok
          · refine Does.condF (by simp [heq]) ?_
            refine Does.skip ?_
            simp
            refine Does.region ?_
            have hw : IntKind.i64.wrap ((i : Int) + 1) = ((i + 1 : Nat) : Int) := wrap1 (by omega)
            simp at hw
            simp [h5, vbin_add, hw]
            refine ⟨i + 1, by omega, hkt, hds, h0, h1, by simp, by omega, ?_⟩
            rw [List.take_add_one, List.take_add_one, ht, gx, gy, heq]
          · refine Does.condT (by simp [heq]) ?_
            repeat refine Does.seq ?_
            refine Does.region ?_
            simp
            refine Does.ret ?_
            simp [hds, hkt]
            intro h
            rw [h, gy] at gx
            exact heq (Option.some.inj gx).symm
        · have hlt' : ¬ (i : Int) < (l.length : Int) := by omega
          simp [h0, h5, lx, vbin_lss, hlt']
          repeat refine Does.seq ?_
          refine Does.condF (by simp) ?_
          refine Does.exit ?_
          simp [hds, hk]
          rwa [List.take_of_length_le (by simp; omega), List.take_of_length_le (by simp; omega)] at ht
end Go.Vm
