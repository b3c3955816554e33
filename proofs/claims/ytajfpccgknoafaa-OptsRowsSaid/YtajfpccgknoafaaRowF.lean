/- The law OptsRows returns true, by the evaluator's equations, whatever known letters, letters told and words it is handed. -/
import Derived.Test.YtajfpccgknoafaaRowE
namespace Go.Vm
open Go Go.Proofs
attribute [local simp] Oks xOps vwanted isDefer vop kindOf vpure ev evs toV andThen inBlock atTo_some Fr.dsTo Fr.glTo Fr.toNone initFr_at initFr_ds initFr_gl veff traverse tupled vresult V.undef

theorem rem_ok (kk : Bool) (a n : Nat) (hn : 0 < n) : vbin Try.prog kk .rem 3 (.int .i64 (a : Int)) (.int .i64 (n : Int)) = some (.int .i64 ((a % n : Nat) : Int)) := by
  have h : vbin Try.prog kk .rem 3 (.int .i64 (a : Int)) (.int .i64 (n : Int)) = viaSem Try.prog (fun l => binOp .rem 3 (l.getD 0 undef) (l.getD 1 undef)) [.int .i64 (a : Int), .int .i64 (n : Int)] := by
    simp [vbin]
  rw [h]
  simp only [viaSem, traverse, ofV]
  have h2 : unSem Try.prog (binOp .rem 3 (.int .i64 (a : Int)) (.int .i64 (n : Int))) = some (.int .i64 ((a : Int).tmod (n : Int))) := by
    simp [binOp, Op.intDiv]
    rw [if_neg (by omega)]
    rfl
  show (match unSem Try.prog (binOp .rem 3 (.int .i64 (a : Int)) (.int .i64 (n : Int))) with
    | some v => toV 6 v
    | none => none) = _
  rw [h2]
  have : (a : Int).tmod (n : Int) = ((a % n : Nat) : Int) := rfl
  rw [this]
  rfl

theorem conv_int (st : St) (b : Nat) (hb : b < 256) : vconv Try.prog st 5 3 (.int .u8 (b : Int)) = some (.int .i64 (b : Int)) := by
  have h : vconv Try.prog st 5 3 (.int .u8 (b : Int)) = viaSem Try.prog (fun l => convert 5 3 (l.getD 0 undef)) [.int .u8 (b : Int)] := by
    simp only [vconv, Try.underlying3, Try.underlying5]
  rw [h]
  have hw : IntKind.i64.wrap (b : Int) = (b : Int) := wrap_i64 (by omega) (by omega)
  have h2 : unSem Try.prog (convert 5 3 (Value.int IntKind.u8 (b : Int))) = some (.int .i64 (IntKind.i64.wrap (b : Int))) := by
    rfl
  simp only [viaSem, traverse, ofV]
  show (match unSem Try.prog (convert 5 3 (Value.int IntKind.u8 (b : Int))) with
    | some v => toV 6 v
    | none => none) = _
  rw [h2, hw]
  rfl

theorem load_two {st : St} {id : Nat} {a b : V} (hb : st.box.get id = some (.cells [a, b] 26 true (some 0))) : vload Try.prog st 26 (.ptr id 0) = some (.agg [a, b]) := by
  have hs : sizeT Try.prog 26 = some 2 := by kernel_rfl
  have ha : isAggT Try.prog 26 = some true := by kernel_rfl
  simp only [vload, hb, vpart, ha, hs]
  rfl

/-- a new variable of Opts that holds an answer -/
theorem opts_box (st : St) (s : S) (y : V) (hy : oneC y = true) : ∃ st', vstore Try.prog { ctr := st.ctr + 1, box := st.box.put st.ctr (.cells [.str ⟨0, 0⟩, .nils] 26 true (some 0)) } 26 (.ptr st.ctr 0) (.agg [.str s, y]) = some st' ∧
    Keep st st' ∧ st'.ctr = st.ctr + 1 ∧ st'.box.get st.ctr = some (.cells [.str s, y] 26 true (some 0)) := by
  obtain ⟨q1, _⟩ := store_two (st := { ctr := st.ctr + 1, box := st.box.put st.ctr (.cells [.str ⟨0, 0⟩, .nils] 26 true (some 0)) }) (id := st.ctr) (a := .str ⟨0, 0⟩) (b := .nils) (c := .str s) (d := y) (by rfl) hy (by simp [Tr.get_put])
  exact ⟨_, q1, ((Keep.refl st).new _).put (Nat.le_refl _) _, rfl, by simp [Tr.get_put]⟩

theorem OptR.one {y : V} {lo : Nat} (h : y = .nils ∨ ∃ id n cap, y = .ms id 0 n 1 cap ∧ lo ≤ id) : oneC y = true := by rcases h with rfl | ⟨_, _, _, rfl, _⟩ <;> rfl

theorem build_one (w : S) : vbuildSlice Try.prog 22 1 [(0, .str w)] = some ([.str w], 9, 1) := by kernel_rfl
theorem build_two (w v : S) : vbuildSlice Try.prog 22 2 [(0, .str w), (1, .str v)] = some ([.str w, .str v], 9, 1) := by kernel_rfl

/-- the letters one by one, and turned -/
def OneAt (lo : Nat) (st' : St) (fr : Fr) (ts : List UInt8) : Prop := ∃ one ws back, Fr.at fr 12 = one ∧ Ow lo st' one ws ∧ ws.map S.toList = ts.map (fun b => [45, b]) ∧ Fr.at fr 13 = .str back ∧ back.toList = ts.reverse
/-- the letters in two words -/
def AllAt (lo : Nat) (st' : St) (fr : Fr) (ts : List UInt8) : Prop := ∃ all vs, Fr.at fr 15 = all ∧ Ow lo st' all vs ∧ ((ts = [] ∧ vs = []) ∨ ∃ w1 w2, ts ≠ [] ∧ vs = [w1, w2] ∧ w1.toList = 45 :: ts.reverse ∧ w2.toList = 45 :: ts)

theorem Ow.up {lo a : Nat} {st st' : St} (hc : st.ctr ≤ st'.ctr) (h : ∀ i, a ≤ i → i < st.ctr → st'.box.get i = st.box.get i) (ha : a ≤ lo) {x : V} {l : List S} (hv : Ow lo st x l) : Ow lo st' x l := by
  cases hv with
  | nils => exact .nils
  | ms id cap fl l hb h1 h2 hcp => exact .ms id cap fl l (by rw [h id (by omega) h2]; exact hb) h1 (by omega) hcp

/-- an answer's slice lies where it lay -/
theorem Vw.up {a : Nat} {st st' : St} (hc : st.ctr ≤ st'.ctr) (h : ∀ i, a ≤ i → i < st.ctr → st'.box.get i = st.box.get i) {y : V} {l : List S} (hv : Vw st y l) (hy : y = .nils ∨ ∃ id n cap, y = .ms id 0 n 1 cap ∧ a ≤ id) : Vw st' y l := by
  cases hv with
  | nils => exact .nils
  | sl l ex => exact .sl l ex
  | ms id off cap cs e fl fz l hb hl hlt hid hcap =>
    have ha : a ≤ id := by
      rcases hy with h | ⟨_, _, _, h, h'⟩
      · cases h
      · cases h; exact h'
    exact .ms id off cap cs e fl fz l (by rw [h id ha hid]; exact hb) hl hlt (by omega) hcap

theorem Ow.below {lo : Nat} {st : St} {x : V} {l : List S} (h : Ow lo st x l) : ∀ i, st.ctr ≤ i → ∀ c, x ≠ .ms i 0 l.length 1 c := by
  intro i hi c hx
  cases h with
  | nils => cases hx
  | ms id cap fl l hb h1 h2 hcp => cases hx; omega

theorem scan_all {kn : S} (hok : lettersOk kn) {ts : List UInt8} {vs r : List S} {w : S} (hw : w.toList = [45, 45]) (hk : ∀ b ∈ ts, b ∈ kn.toList) (h : (ts = [] ∧ vs = []) ∨ ∃ w1 w2, ts ≠ [] ∧ vs = [w1, w2] ∧ w1.toList = 45 :: ts.reverse ∧ w2.toList = 45 :: ts) :
    ∃ u, scan kn (vs ++ w :: r) [] = some (u, r) ∧ ∀ b, b ∈ u ↔ b ∈ ts := by
  rcases h with ⟨rfl, rfl⟩ | ⟨w1, w2, hne, rfl, h1, h2⟩
  · exact ⟨[], by simp [scan_dashes hw], by simp⟩
  · cases hts : ts with
    | nil => exact absurd hts hne
    | cons b0 t0 =>
      obtain ⟨c, cs, hc⟩ : ∃ c cs, ts.reverse = c :: cs := by
        cases hr : ts.reverse with
        | nil => exact absurd (by simpa using hr) hne
        | cons c cs => exact ⟨c, cs, rfl⟩
      rw [hc] at h1
      rw [hts] at h2
      have hin : ∀ b ∈ c :: cs, b ∈ kn.toList := fun b hb => hk b (by rw [← List.mem_reverse, hc]; exact hb)
      have hin2 : ∀ b ∈ b0 :: t0, b ∈ kn.toList := fun b hb => hk b (by rw [hts]; exact hb)
      refine ⟨(c :: cs) ++ b0 :: t0, ?_, fun b => ?_⟩
      · show scan kn (w1 :: w2 :: w :: r) [] = _
        rw [scan_opt (r0 := []) h1 (letter_no_dash hok (hin c (List.mem_cons_self ..))) hin, scan_opt (r0 := []) h2 (letter_no_dash hok (hin2 b0 (List.mem_cons_self ..))) hin2, scan_dashes hw]
        simp
      · rw [← hc, hts, List.mem_append, List.mem_reverse]; simp

/-- Set as a word -/
def AgainAt (lo : Nat) (st' : St) (fr : Fr) (ts : List UInt8) : Prop := ∃ again us, Fr.at fr 23 = again ∧ Ow lo st' again us ∧ ((ts = [] ∧ us = []) ∨ ∃ w, ts ≠ [] ∧ us = [w] ∧ w.toList = 45 :: ts)

theorem scan_again {kn : S} (hok : lettersOk kn) {ts : List UInt8} {us r : List S} {w : S} (hw : w.toList = [45, 45]) (hk : ∀ b ∈ ts, b ∈ kn.toList) (h : (ts = [] ∧ us = []) ∨ ∃ w, ts ≠ [] ∧ us = [w] ∧ w.toList = 45 :: ts) :
    scan kn (us ++ w :: r) [] = some (ts, r) := by
  rcases h with ⟨rfl, rfl⟩ | ⟨w1, hne, rfl, h1⟩
  · exact scan_dashes hw
  · cases hts : ts with
    | nil => exact absurd hts hne
    | cons b t0 =>
      rw [hts] at h1
      have hin : ∀ c ∈ b :: t0, c ∈ kn.toList := fun c hc => hk c (by rw [hts]; exact hc)
      show scan kn (w1 :: w :: r) [] = _
      rw [scan_opt (r0 := []) h1 (letter_no_dash hok (hin b (List.mem_cons_self ..))) hin, scan_dashes hw]
      simp

theorem parseS_same {kn : S} (hk : lettersOk kn) {l r : List S} {t : List UInt8} (hs : scan kn l [] = some (t, r)) : parseS kn l (r.length : Int) (r.length : Int) = (setOf t, r, 0) := by
  have h0 : (0 : Int) ≤ (r.length : Int) := Int.natCast_nonneg _
  refine parseS_ok (fun h => ?_) hs (fun h => ?_)
  · rcases h with h | h | h
    · omega
    · omega
    · exact h hk
  · rcases h with h | h <;> omega

theorem xOps_cut [Memo] {P : Program} {ops : Array Oper} (a : List Oper) : ∀ (b : List Oper) (fr : Fr) (st : St), xOps P (ihCall (W P)) none ops (a ++ b) fr st =
    match xOps P (ihCall (W P)) none ops a fr st with
    | .ok fr1 st1 => xOps P (ihCall (W P)) none ops b fr1 st1
    | r => r := by
  induction a with
  | nil => intro b fr st; rfl
  | cons o r ih =>
    intro b fr st
    simp only [List.cons_append, xOps]
    cases vwanted ops fr o with
    | false => exact ih ..
    | true =>
      cases isDefer o.op with
      | false =>
        cases vop P (ihCall (W P)) fr st o.op with
        | val v st' => exact ih ..
        | panic v st' => rfl
        | fail w => rfl
      | true =>
        generalize vdefer P fr o.op = d
        cases d with
        | none => rfl
        | some d => exact ih ..

/-- a region in two -/
theorem Oks.cut [Memo] {P : Program} {ops : Array Oper} {l : List Oper} {fr : Fr} {st : St} {Q : Fr → St → Prop} (n : Nat) (R : Fr → St → Prop) (h : Oks P ops (l.take n) fr st R)
    (k : ∀ fr' st', R fr' st' → Oks P ops (l.drop n) fr' st' Q) : Oks P ops l fr st Q := by
  unfold Oks at h ⊢
  rw [← List.take_append_drop n l, xOps_cut]
  cases hx : xOps P (ihCall (W P)) none ops (l.take n) fr st with
  | ok fr1 st1 => rw [hx] at h; exact k fr1 st1 h
  | panic v fr1 st1 => rw [hx] at h; exact h.elim
  | fail w => rw [hx] at h; exact h.elim

set_option maxHeartbeats 4000000 in
theorem rows_ok [Memo] [NR] (gl : Gl) (hworks : ∀ st, ihCall (W Try.prog) gl (.f 6) [] st = .val (.bool true) st) (kn told : S) (x : V) (l : List S) (hx : Vw ⟨0, .nil⟩ x l) (hl : l.length ≤ 9223372036854775807) :
    ∃ v st', W Try.prog (.call gl 3 [.str kn, .str told, x]) ⟨0, .nil⟩ = .call (.val v st') ∧ v = .bool true := by
  have hkl := vlen_str Try.underlying9 (s := kn)
  have htl := vlen_str Try.underlying9 (s := told)
  have hk6 : callable Try.prog 6 = true := by kernel_rfl
  have hk7 : callable Try.prog 7 = true := by kernel_rfl
  have hk8 : callable Try.prog 8 = true := by kernel_rfl
  have hk9 : callable Try.prog 9 = true := by kernel_rfl
  have hz26 : zeroT Try.prog 26 = some (.agg [.str ⟨0, 0⟩, .nils]) := by kernel_rfl
  have hos : oneC (.str ⟨0, 0⟩) = true := rfl
  have hon : oneC .nils = true := rfl
  have hc26 : (V.agg [.str ⟨0, 0⟩, .nils]).cells = [.str ⟨0, 0⟩, .nils] := rfl
  obtain ⟨big, hbig, hsmall⟩ := large_ok gl ⟨0, .nil⟩ x l hx hl
  have hbig := ihCall_W hbig
  refine call_ex (NR.no _ rfl _ _) Try.func3 rfl (by kernel_rfl) ?_
  refine Does.seq (Does.region ?_)
  simp
  refine Does.seq (Does.mono (Q := fun e fr' st' => st' = ⟨0, .nil⟩ ∧ fr'.ds = [] ∧ fr'.gl = gl ∧ ((e = AE.ret ∧ Fr.at fr' 6 = .bool true) ∨ (e = AE.normal ∧ kn.n ≤ 60 ∧ told.n ≤ 200 ∧ big = false ∧ Fr.at fr' 0 = .str kn ∧ Fr.at fr' 1 = .str told ∧ Fr.at fr' 2 = x))) ?a1 ?b1)
  case a1 => as_aux_lemma =>
    refine Does.seq (Does.region ?_)
    have g1 : decide ((kn.n : Int) > 60) = decide (60 < kn.n) := by simp only [gt_iff_lt]; congr 1; simp; omega
    have g2 : decide ((told.n : Int) > 200) = decide (200 < told.n) := by simp only [gt_iff_lt]; congr 1; simp; omega
    simp only [gt_iff_lt] at g1 g2
    have leave : ∀ fr' : Fr, fr'.ds = [] → fr'.gl = gl → Fr.at fr' 41 = .bool true → True := fun _ _ _ _ => trivial
    cases h1 : decide (60 < kn.n)
    · cases h2 : decide (200 < told.n)
      · cases big with
        | false =>
          rw [h1] at g1
          rw [h2] at g2
          simp [hkl, htl, vbin_gtr, g1, g2, vcall_callable hk6, hworks, vcall_callable hk7, hbig]
          refine Does.condF (by simp) ?_
          refine Does.skip ?_
          have := of_decide_eq_false h1
          have := of_decide_eq_false h2
          simp
          omega
        | true =>
          rw [h1] at g1
          rw [h2] at g2
          simp [hkl, htl, vbin_gtr, g1, g2, vcall_callable hk6, hworks, vcall_callable hk7, hbig]
          refine Does.condT (by simp) ?_
          refine Does.seq (Does.region ?_)
          simp [vcall_callable hk6, hworks]
          refine Does.ret ?_
          simp
      · rw [h1] at g1
        rw [h2] at g2
        simp [hkl, htl, vbin_gtr, g1, g2, vcall_callable hk6, hworks]
        refine Does.condT (by simp) ?_
        refine Does.seq (Does.region ?_)
        simp [vcall_callable hk6, hworks]
        refine Does.ret ?_
        simp
    · rw [h1] at g1
      simp [hkl, vbin_gtr, g1, vcall_callable hk6, hworks]
      refine Does.condT (by simp) ?_
      refine Does.seq (Does.region ?_)
      simp [vcall_callable hk6, hworks]
      refine Does.ret ?_
      simp
  case b1 => as_aux_lemma =>
  rintro e fr st0 ⟨rfl, hds, hgl, ⟨rfl, f6⟩ | ⟨rfl, hkn, htn, hbg, f0, f1, f2⟩⟩
  · simp [hds, f6]
  obtain ⟨hl5, hw5⟩ := hsmall hbg
  simp
  -- are the letters letters?
  obtain ⟨v1, st1, hc1, hk1, s1, y1, rfl, hs1, hy1, hyy1⟩ := parse_ok gl ⟨0, .nil⟩ kn .nils [] 0 0 .nils (by simp) (by simp) (by omega)
  have hc1 := ihCall_W hc1
  obtain ⟨st2, q2, hk2, hct2, _⟩ := opts_box st1 s1 y1 (OptR.one hyy1)
  refine Does.seq (Does.mono (Q := fun e fr' st' => e = AE.normal ∧ st' = st2 ∧ fr'.ds = [] ∧ fr'.gl = gl ∧ Fr.at fr' 0 = .str kn ∧ Fr.at fr' 1 = .str told ∧ Fr.at fr' 2 = x ∧ Fr.at fr' 8 = .int .i64 ((parseS kn [] 0 0).2.2 : Int)) ?a2 ?b2)
  case a2 => as_aux_lemma =>
    refine Does.region ?_
    simp [f0, hgl, vcall_callable hk8, hc1, valloc, hz26, hc26, hos, hon, mkRef, vact, q2, hds, f1, f2]
  case b2 => as_aux_lemma =>
  rintro e fr st' ⟨rfl, hst, hds, hgl, f0, f1, f2, f8⟩
  rw [hst]
  clear hst
  simp
  by_cases hok : lettersOk kn
  rotate_left
  · rw [parseS_bad (.inr (.inr hok))] at f8
    refine Does.seq (Does.seq (Does.region ?_))
    simp [f8, vbin_neq]
    refine Does.condT (by simp) ?_
    refine Does.seq (Does.region ?_)
    simp
    refine Does.ret ?_
    simp [hds]
  rw [parseS_of hok (l := []) (r := []) (t := []) rfl (by simp)] at f8
  refine Does.seq (Does.seq (Does.region ?_))
  simp [f8, vbin_neq]
  refine Does.condF (by simp) ?_
  refine Does.skip ?_
  simp
  refine Does.seq (Does.region ?_)
  simp
  -- the letters told
  refine Does.seq (Does.mono (Q := fun e fr' st' => e = AE.normal ∧ st' = st2 ∧ fr'.ds = [] ∧ fr'.gl = gl ∧ Fr.at fr' 0 = .str kn ∧ Fr.at fr' 2 = x ∧ ∃ ls, Fr.at fr' 9 = .str ls ∧ ls.n ≤ 200 ∧ ∀ b ∈ ls.toList, b ∈ kn.toList) ?a3 ?b3)
  case a3 => as_aux_lemma =>
    refine Does.seq (Does.region ?_)
    simp
    refine Does.block (Does.inv (fun k fr' st' => st' = st2 ∧ fr'.ds = [] ∧ fr'.gl = gl ∧ k ≤ told.n ∧ Fr.at fr' 0 = .str kn ∧ Fr.at fr' 1 = .str told ∧ Fr.at fr' 2 = x ∧ Fr.at fr' 10 = .int .i64 ((told.n - k : Nat) : Int) ∧ ∃ ls, Fr.at fr' 9 = .str ls ∧ ls.n ≤ told.n - k ∧ ∀ b ∈ ls.toList, b ∈ kn.toList) told.n ?i3 ?s3)
    case i3 => exact ⟨rfl, by simp [hds], by simp [hgl], Nat.le_refl _, by simp [f0], by simp [f1], by simp [f2], by simp, S.ofList [], by simp, Nat.zero_le _, fun b hb => by cases hb⟩
    case s3 =>
      rintro k fr st' ⟨rfl, hds, hgl, hk, f0, f1, f2, f10, ls, f9, hls, hlm⟩
      refine Does.seq (Does.seq (Does.region ?_))
      have g2 : decide ((kn.n : Int) > 0) = decide (0 < kn.n) := by simp only [gt_iff_lt]; congr 1; simp
      simp only [gt_iff_lt] at g2
      cases h1 : decide (told.n - k < told.n)
      · simp [f1, f10, htl, vbin_lss, h1]
        refine Does.condF (by simp) ?_
        refine Does.exit ?_
        simp
        exact ⟨hds, hgl, f0, f2, ls, f9, by omega, hlm⟩
      · have hc : told.n - k < told.n := of_decide_eq_true h1
        cases h2 : decide (0 < kn.n)
        · rw [h2] at g2
          simp [f0, f1, f10, htl, hkl, vbin_lss, vbin_gtr, h1, g2]
          have : ¬ 0 < kn.n := of_decide_eq_false h2
          refine Does.condF (by simp <;> omega) ?_
          refine Does.exit ?_
          simp
          exact ⟨hds, hgl, f0, f2, ls, f9, by omega, hlm⟩
        · have hkp : 0 < kn.n := of_decide_eq_true h2
          rw [h2] at g2
          simp [f0, f1, f10, htl, hkl, vbin_lss, vbin_gtr, h1, g2]
          refine Does.condT (by simp <;> omega) ?_
          refine Does.skip ?_
          simp
          have hix := vindex_str (k := .i64) Try.underlying9 (s := told) hc
          have hci := conv_int st' (told.at (told.n - k)) (S.at_lt _ _)
          have hrm := fun kk => rem_ok kk (told.at (told.n - k)) kn.n hkp
          have hlt : told.at (told.n - k) % kn.n < kn.n := Nat.mod_lt _ hkp
          generalize told.at (told.n - k) % kn.n = j at hrm hlt
          have hkr : kindOf Try.prog (.convert 5 3 (.tmp 63)) = .r := by kernel_rfl
          simp only [kindOf] at hkr
          refine Does.seq (Does.block (Does.seq (Does.region ?_)))
          simp [f0, f1, f10, hix, hkr, hci, hkl, hrm]
          refine Does.region ?_
          have wj : IntKind.i64.wrap ((j : Int) + 1) = (j : Int) + 1 := wrap_i64 (by omega) (by omega)
          have hsl : vslice Try.prog 9 (.str kn) (some (.int .i64 (j : Int))) (some (.int .i64 ((j : Int) + 1))) = some (.str (kn.cut j (j + 1))) :=
            vslice_str (k := .i64) (k' := .i64) Try.underlying9 (s := kn) (lo := j) (hi := j + 1) (by omega) (by omega)
          have hcn : (kn.cut j (j + 1)).n = 1 := by show Nat.sub (j + 1) j = 1; simp only [Nat.sub_eq]; omega
          have hcl := cut_one kn hlt
          have had : ∀ kk, vbin Try.prog kk .add 9 (.str ls) (.str (kn.cut j (j + 1))) = some (.str (ls.app (kn.cut j (j + 1)))) := fun kk => vbin_sadd (by rw [hcn]; simp only [maxStr]; omega)
          simp [f0, f9, evOpt, vbin_add, wj, hsl, had]
          refine Does.region ?_
          have w10 : IntKind.i64.wrap (((told.n - k : Nat) : Int) + 1) = ((told.n - k : Nat) : Int) + 1 := wrap_i64 (by omega) (by omega)
          simp [f10, vbin_add, w10]
          refine ⟨k - 1, by omega, hds, hgl, by omega, f0, f1, f2, by omega, ?_, fun b hb => ?_⟩
          · show ls.n + (kn.cut j (j + 1)).n ≤ _
            rw [hcn]; omega
          · rw [S.toList_app, hcl] at hb
            rcases List.mem_append.1 hb with hb | hb
            · exact hlm b hb
            · rw [List.mem_singleton.1 hb]
              exact List.mem_of_getElem? (S.toList_at kn hlt)
  case b3 => as_aux_lemma =>
  rintro e fr st' ⟨rfl, hst, hds, hgl, f0, f2, ls, f9, hls, hlm⟩
  rw [hst]
  clear hst
  simp
  have hd1 : (S.ofList [45]).toList = [45] := dec_enc _
  refine Does.seq (Does.region ?_)
  simp
  refine Does.seq (Does.region ?_)
  simp
  refine Does.seq (Does.mono (Q := fun e fr' st' => e = AE.normal ∧ Keep st2 st' ∧ fr'.ds = [] ∧ fr'.gl = gl ∧ Fr.at fr' 0 = .str kn ∧ Fr.at fr' 2 = x ∧ Fr.at fr' 9 = .str ls ∧ OneAt st2.ctr st' fr' ls.toList) ?a4 ?b4)
  case a4 => as_aux_lemma =>
    refine Does.seq (Does.region ?_)
    simp
    refine Does.block (Does.inv (fun k fr' st' => Keep st2 st' ∧ fr'.ds = [] ∧ fr'.gl = gl ∧ k ≤ ls.n ∧ Fr.at fr' 0 = .str kn ∧ Fr.at fr' 2 = x ∧ Fr.at fr' 9 = .str ls ∧ Fr.at fr' 14 = .int .i64 ((ls.n - k : Nat) : Int) ∧ OneAt st2.ctr st' fr' (ls.toList.take (ls.n - k))) ls.n ?i4 ?s4)
    case i4 => exact ⟨.refl _, by simp [hds], by simp [hgl], Nat.le_refl _, by simp [f0], by simp [f2], by simp [f9], by simp, .nils, [], S.ofList [], by simp, .nils, by simp, by simp, by simp <;> rfl⟩
    case s4 =>
      rintro k fr st' ⟨hkp, hds, hgl, hk, f0, f2, f9, f14, one, ws, back, f12, how, hws, f13, hbk⟩
      have hlsl := vlen_str Try.underlying9 (s := ls)
      refine Does.seq (Does.seq (Does.region ?_))
      simp [f9, f14, hlsl, vbin_lss]
      refine Does.cond (c := decide (ls.n - k < ls.n)) (by simp) (fun hc => ?_) (fun hc => ?_)
      · have hc : ls.n - k < ls.n := of_decide_eq_true hc
        have w14 : IntKind.i64.wrap (((ls.n - k : Nat) : Int) + 1) = ((ls.n - k : Nat) : Int) + 1 := wrap_i64 (by omega) (by omega)
        have hsl : vslice Try.prog 9 (.str ls) (some (.int .i64 ((ls.n - k : Nat) : Int))) (some (.int .i64 (((ls.n - k : Nat) : Int) + 1))) = some (.str (ls.cut (ls.n - k) (ls.n - k + 1))) :=
          vslice_str (k := .i64) (k' := .i64) Try.underlying9 (s := ls) (lo := ls.n - k) (hi := ls.n - k + 1) (by omega) (by omega)
        have hcl := cut_one ls hc
        have hcn : (ls.cut (ls.n - k) (ls.n - k + 1)).n = 1 := by show Nat.sub (ls.n - k + 1) (ls.n - k) = 1; simp only [Nat.sub_eq]; omega
        have htk : ls.toList.take (ls.n - k + 1) = ls.toList.take (ls.n - k) ++ [UInt8.ofNat (ls.at (ls.n - k))] := by
          rw [List.take_add_one, S.toList_at ls hc]; rfl
        generalize ls.cut (ls.n - k) (ls.n - k + 1) = c at hsl hcl hcn
        have hbn : back.n ≤ 200 := by rw [← S.len, hbk]; simp [S.len]; omega
        have ha1 : ∀ kk, vbin Try.prog kk .add 9 (.str (S.ofList [45])) (.str c) = some (.str ((S.ofList [45]).app c)) := fun kk => vbin_sadd (by rw [hcn]; show 1 + 1 ≤ maxStr; simp only [maxStr]; omega)
        have ha2 : ∀ kk, vbin Try.prog kk .add 9 (.str c) (.str back) = some (.str (c.app back)) := fun kk => vbin_sadd (by rw [hcn]; simp only [maxStr]; omega)
        have hwl : ((S.ofList [45]).app c).toList = [45, UInt8.ofNat (ls.at (ls.n - k))] := by rw [S.toList_app, hd1, hcl]; rfl
        have hbl : (c.app back).toList = (ls.toList.take (ls.n - k) ++ [UInt8.ofNat (ls.at (ls.n - k))]).reverse := by rw [S.toList_app, hcl, hbk]; simp
        generalize (S.ofList [45]).app c = w at ha1 hwl
        generalize c.app back = back' at ha2 hbl
        let st5 : St := { ctr := st'.ctr + 1, box := st'.box.put st'.ctr (.cells [.str w] 9 true (some 0)) }
        have hk5 : Keep st' st5 := (Keep.refl st').new _
        have how1 : Ow st'.ctr st5 (.ms st'.ctr 0 1 1 (some 1)) [w] := Ow.build st' [w] 1 rfl
        have hwsl : ws.length ≤ 200 := by have := congrArg List.length hws; simp [S.len] at this; omega
        obtain ⟨z, st6, c1, c2, c3, c4, _, _, _⟩ := Ow.app (lo := st2.ctr) (by show st2.ctr ≤ st'.ctr + 1; have := hkp.ctr; omega) (how.keep hk5) how1.vw (by simp; omega)
        have hb1 := build_one w
        have hu : Try.prog.underlying 22 = some (.slice 9) := u22
        have how2 : oneC (.str w) = true := rfl
        refine Does.skip ?_
        simp
        refine Does.seq (Does.block (Does.seq (Does.region ?_)))
        simp only [st5] at c1
        simp [f9, f12, f14, evOpt, vbin_add, w14, hsl, ha1, valloc, mkRef, evParts, hb1, how2, vact, hu, c1]
        refine Does.region ?_
        simp [f9, f13, f14, evOpt, vbin_add, w14, hsl, ha2]
        refine Does.region ?_
        simp [f14, vbin_add, w14]
        have c3' : st'.ctr + 1 ≤ st6.ctr := c3
        refine ⟨k - 1, by omega, ⟨by have := hkp.ctr; omega, fun i hi => by rw [c4 i hi, hk5.box i (by have := hkp.ctr; omega)]; exact hkp.box i hi⟩, hds, hgl, by omega, f0, f2, f9, by omega, z, ws ++ [w], back', by simp, c2, ?_, by simp, ?_⟩
        · rw [List.map_append, hws, show ls.n - (k - 1) = ls.n - k + 1 by omega, htk, List.map_append]
          simp [hwl]
        · rw [show ls.n - (k - 1) = ls.n - k + 1 by omega, htk]; exact hbl
      · have hc : ¬ ls.n - k < ls.n := of_decide_eq_false hc
        have he : ls.n - k = ls.n := by omega
        refine Does.exit ?_
        simp
        rw [he, List.take_of_length_le (by rw [S.len]; exact Nat.le_refl _)] at hws hbk
        exact ⟨hkp, hds, hgl, f0, f2, f9, one, ws, back, by simp [f12], how, hws, by simp [f13], hbk⟩
  case b4 => as_aux_lemma =>
  rintro e fr st4 ⟨rfl, hk24, hds, hgl, f0, f2, f9, one, ws, back, f12, how, hws, f13, hbk⟩
  simp
  refine Does.seq (Does.region ?_)
  simp
  -- all in two words
  refine Does.seq (Does.mono (Q := fun e fr' st' => e = AE.normal ∧ Keep st4 st' ∧ fr'.ds = [] ∧ fr'.gl = gl ∧ Fr.at fr' 0 = .str kn ∧ Fr.at fr' 2 = x ∧ Fr.at fr' 12 = one ∧ AllAt st4.ctr st' fr' ls.toList) ?a5 ?b5)
  case a5 => as_aux_lemma =>
    refine Does.seq (Does.region ?_)
    have he : ls.same (S.ofList []) = decide (ls.toList = []) := by
      rw [S.same_eq]
      have : (S.ofList []).toList = [] := rfl
      rw [this]
      cases ls.toList <;> rfl
    simp [f9, vbin_sneq, he]
    by_cases hem : ls.toList = []
    · refine Does.condF (by simp [hem]) ?_
      refine Does.skip ?_
      simp
      exact ⟨.refl _, hds, hgl, f0, f2, f12, .nils, [], by simp, .nils, .inl ⟨hem, rfl⟩⟩
    · refine Does.condT (by simp [hem]) ?_
      refine Does.region ?_
      have hbn : back.n ≤ 200 := by rw [← S.len, hbk]; simp [S.len]; omega
      have ha1 : ∀ kk, vbin Try.prog kk .add 9 (.str (S.ofList [45])) (.str back) = some (.str ((S.ofList [45]).app back)) := fun kk => vbin_sadd (by show 1 + back.n ≤ maxStr; simp only [maxStr]; omega)
      have ha2 : ∀ kk, vbin Try.prog kk .add 9 (.str (S.ofList [45])) (.str ls) = some (.str ((S.ofList [45]).app ls)) := fun kk => vbin_sadd (by show 1 + ls.n ≤ maxStr; simp only [maxStr]; omega)
      have hw1 : ((S.ofList [45]).app back).toList = 45 :: ls.toList.reverse := by rw [S.toList_app, hd1, hbk]; rfl
      have hw2 : ((S.ofList [45]).app ls).toList = 45 :: ls.toList := by rw [S.toList_app, hd1]; rfl
      generalize (S.ofList [45]).app back = w1 at ha1 hw1
      generalize (S.ofList [45]).app ls = w2 at ha2 hw2
      have hb2 := build_two w1 w2
      have o1 : oneC (.str w1) = true := rfl
      have o2 : oneC (.str w2) = true := rfl
      simp [f9, f13, ha1, ha2, valloc, mkRef, evParts, hb2, o1, o2]
      exact ⟨(Keep.refl st4).new _, hds, hgl, f0, f2, f12, .ms st4.ctr 0 2 1 (some 2), [w1, w2], by simp, Ow.build st4 [w1, w2] 2 rfl, .inr ⟨w1, w2, hem, rfl, hw1, hw2⟩⟩
  case b5 => as_aux_lemma =>
  rintro e fr st5 ⟨rfl, hk45, hds, hgl, f0, f2, f12, all, vs, f15, hall, hvs⟩
  simp
  have hdd : (S.ofList [45, 45]).toList = [45, 45] := dec_enc _
  have hu : Try.prog.underlying 22 = some (.slice 9) := u22
  have hx0 := hx.len u22
  have hdn : (S.ofList [45, 45]).n = 2 := rfl
  have hwsl : ws.length ≤ 200 := by have := congrArg List.length hws; simp [S.len] at this; omega
  have hvsl : vs.length ≤ 2 := by rcases hvs with ⟨_, rfl⟩ | ⟨_, _, _, rfl, _, _⟩ <;> simp
  generalize hddw : S.ofList [45, 45] = dd at hdd hdn
  -- the words behind --
  let st6 : St := { ctr := st5.ctr + 1, box := st5.box.put st5.ctr (.cells [.str dd] 9 true (some 0)) }
  have hk56 : Keep st5 st6 := (Keep.refl st5).new _
  have hod : Ow st5.ctr st6 (.ms st5.ctr 0 1 1 (some 1)) [dd] := Ow.build st5 [dd] 1 rfl
  have hxk : ∀ st', Vw st' x l := fun st' => hx.keep ⟨Nat.zero_le _, fun i hi => absurd hi (Nat.not_lt_zero _)⟩
  obtain ⟨l0, st7, c1, c2, c3, c4, _, _, _⟩ := Ow.app (lo := st5.ctr) (by show st5.ctr ≤ st5.ctr + 1; omega) hod (hxk st6) (by simp; omega)
  have c3' : st5.ctr + 1 ≤ st7.ctr := c3
  have hk57 : Keep st5 st7 := ⟨by omega, fun i hi => by rw [c4 i hi, hk56.box i hi]⟩
  refine Does.seq (Does.mono (Q := fun e fr' st' => e = AE.normal ∧ st' = st7 ∧ fr'.ds = [] ∧ fr'.gl = gl ∧ Fr.at fr' 0 = .str kn ∧ Fr.at fr' 2 = x ∧ Fr.at fr' 12 = one ∧ Fr.at fr' 15 = all ∧ Fr.at fr' 16 = l0) ?a6 ?b6)
  case a6 => as_aux_lemma =>
    refine Does.region ?_
    have hb1 := build_one dd
    have o1 : oneC (.str dd) = true := rfl
    simp only [st6] at c1
    simp [hddw, f2, valloc, mkRef, evParts, hb1, o1, vact, hu, c1, hds, hgl, f0, f12, f15]
  case b6 => as_aux_lemma =>
  rintro e fr st' ⟨rfl, hst, hds, hgl, f0, f2, f12, f15, f16⟩
  rw [hst]
  clear hst
  simp
  -- one by one
  have how7 : Ow st2.ctr st7 one ws := (how.keep hk45).keep hk57
  have hall7 : Ow st4.ctr st7 all vs := hall.keep hk57
  have hc24 := hk24.ctr
  have hc45 := hk45.ctr
  obtain ⟨z1, st8, e1, e2, e3, e4, e5, _, _⟩ := Ow.app (lo := st2.ctr) (by omega) how7 c2.vw (by simp; omega)
  have up78 : ∀ i, st4.ctr ≤ i → i < st7.ctr → st8.box.get i = st7.box.get i := fun i h1 h2 => e5 i h2 (how.below i h1)
  have hl5' : (ws ++ ([dd] ++ l)).length < 100000 := by simp; omega
  have hws5 : ∀ s ∈ ws ++ ([dd] ++ l), s.n < 100000 := by
    intro s hs
    rcases List.mem_append.1 hs with hs | hs
    · have := List.mem_map_of_mem (f := S.toList) hs
      rw [hws] at this
      obtain ⟨b, _, hb⟩ := List.mem_map.1 this
      have := congrArg List.length hb
      simp [S.len] at this
      omega
    · rcases List.mem_append.1 hs with hs | hs
      · rw [List.mem_singleton.1 hs, hdn]; omega
      · have := hw5 s hs; omega
  obtain ⟨v9, st9, hc9, hk89, s9, y9, rfl, hs9, hy9, hyy9⟩ := parse_ok gl st8 kn z1 (ws ++ ([dd] ++ l)) 0 (l.length : Int) e2.vw hl5' hws5 (by omega)
  have hc9 := ihCall_W hc9
  have hp9 : parseS kn (ws ++ ([dd] ++ l)) 0 (l.length : Int) = (setOf ls.toList, l, 0) := by
    refine parseS_of hok ?_ (Int.le_refl _)
    rw [scan_one ws ls.toList [] hws (fun b hb => ⟨hlm b hb, letter_no_dash hok (hlm b hb)⟩)]
    simp [scan_dashes hdd]
  rw [hp9] at hc9 hs9 hy9
  obtain ⟨st10, q10, hk910, hct10, hb10⟩ := opts_box st9 s9 y9 (OptR.one hyy9)
  refine Does.seq (Does.mono (Q := fun e fr' st' => e = AE.normal ∧ st' = st10 ∧ fr'.ds = [] ∧ fr'.gl = gl ∧ Fr.at fr' 0 = .str kn ∧ Fr.at fr' 2 = x ∧ Fr.at fr' 15 = all ∧ Fr.at fr' 16 = l0 ∧ Fr.at fr' 17 = .ptr st9.ctr 0 ∧ Fr.at fr' 18 = .int .i64 0) ?a7 ?b7)
  case a7 => as_aux_lemma =>
    refine Does.region ?_
    simp [f0, f2, f12, f16, hgl, hx0, vact, hu, e1, vcall_callable hk8, hc9, valloc, hz26, hc26, hos, hon, mkRef, q10, hds, f15]
  case b7 => as_aux_lemma =>
  rintro e fr st' ⟨rfl, hst, hds, hgl, f0, f2, f15, f16, f17, f18⟩
  rw [hst]
  clear hst
  simp
  have hc89 := hk89.ctr
  have up710 : ∀ i, st4.ctr ≤ i → i < st7.ctr → st10.box.get i = st7.box.get i := fun i h1 h2 => by rw [hk910.box i (by omega), hk89.box i (by omega), up78 i h1 h2]
  -- all in one word
  have hall10 : Ow st4.ctr st10 all vs := hall7.up (by omega) up710 (Nat.le_refl _)
  have hl010 : Ow st5.ctr st10 l0 ([dd] ++ l) := c2.up (by omega) up710 hc45
  obtain ⟨z2, st11, i1, i2, i3, i4, i5, _, _⟩ := Ow.app (lo := st4.ctr) (by omega) hall10 hl010.vw (by simp; omega)
  have up1011 : ∀ i, st5.ctr ≤ i → i < st10.ctr → st11.box.get i = st10.box.get i := fun i h1 h2 => i5 i h2 (hall.below i h1)
  have hl6' : (vs ++ ([dd] ++ l)).length < 100000 := by simp; omega
  have hvs5 : ∀ s ∈ vs ++ ([dd] ++ l), s.n < 100000 := by
    intro s hs
    rcases List.mem_append.1 hs with hs | hs
    · rcases hvs with ⟨_, rfl⟩ | ⟨w1, w2, _, rfl, h1, h2⟩
      · cases hs
      · have g1 : w1.n = ls.n + 1 := by rw [← S.len, h1]; simp [S.len]
        have g2 : w2.n = ls.n + 1 := by rw [← S.len, h2]; simp [S.len]
        rcases List.mem_cons.1 hs with rfl | hs
        · omega
        · rw [List.mem_singleton.1 hs]; omega
    · rcases List.mem_append.1 hs with hs | hs
      · rw [List.mem_singleton.1 hs, hdn]; omega
      · have := hw5 s hs; omega
  obtain ⟨u, hu1, hu2⟩ := scan_all (r := l) hok hdd hlm hvs
  obtain ⟨v12, st12, hc12, hk1112, s12, y12, rfl, hs12, hy12, hyy12⟩ := parse_ok gl st11 kn z2 (vs ++ ([dd] ++ l)) 0 (l.length : Int) i2.vw hl6' hvs5 (by omega)
  have hc12 := ihCall_W hc12
  have hp12 : parseS kn (vs ++ ([dd] ++ l)) 0 (l.length : Int) = (setOf ls.toList, l, 0) := by
    rw [parseS_of hok (l := vs ++ ([dd] ++ l)) hu1 (Int.le_refl _), setOf_congr hu2]
  rw [hp12] at hc12 hs12 hy12
  obtain ⟨st13, q13, hk1213, hct13, hb13⟩ := opts_box st12 s12 y12 (OptR.one hyy12)
  refine Does.seq (Does.mono (Q := fun e fr' st' => e = AE.normal ∧ st' = st13 ∧ fr'.ds = [] ∧ fr'.gl = gl ∧ Fr.at fr' 0 = .str kn ∧ Fr.at fr' 2 = x ∧ Fr.at fr' 17 = .ptr st9.ctr 0 ∧ Fr.at fr' 18 = .int .i64 0 ∧ Fr.at fr' 19 = .ptr st12.ctr 0 ∧ Fr.at fr' 20 = .int .i64 0) ?a8 ?b8)
  case a8 => as_aux_lemma =>
    refine Does.region ?_
    simp [f0, f2, f15, f16, hgl, hx0, vact, hu, i1, vcall_callable hk8, hc12, valloc, hz26, hc26, hos, hon, mkRef, q13, hds, f17, f18]
  case b8 => as_aux_lemma =>
  rintro e fr st' ⟨rfl, hst, hds, hgl, f0, f2, f17, f18, f19, f20⟩
  rw [hst]
  clear hst
  simp
  have hc1112 := hk1112.ctr
  have up913 : ∀ i, st8.ctr ≤ i → i < st10.ctr → st13.box.get i = st10.box.get i := fun i h1 h2 => by
    rw [hk1213.box i (by omega), hk1112.box i (by omega), up1011 i (by omega) h2]
  have hb10' : st13.box.get st9.ctr = some (.cells [.str s9, y9] 26 true (some 0)) := by rw [up913 st9.ctr (by omega) (by omega)]; exact hb10
  have hy9' : Vw st13 y9 l := (hy9.keep hk910).up (a := st8.ctr) (by omega) up913 hyy9
  have hy12' : Vw st13 y12 l := hy12.keep hk1213
  have hf0 : ∀ id, vfieldAddr Try.prog 26 (.ptr id 0) 0 = some (.ptr id 0) := fun id => by
    have h1 := Try.underlying26
    simp only [vfieldAddr, h1]
    rfl
  have hf1 : ∀ id, vfieldAddr Try.prog 26 (.ptr id 0) 1 = some (.ptr id 1) := fun id => by
    have h1 := Try.underlying26
    simp only [vfieldAddr, h1]
    rfl
  have a22 : isAggT Try.prog 22 = some false := by kernel_rfl
  have z22 : sizeT Try.prog 22 = some 1 := by kernel_rfl
  have k0 := vload_of (P := Try.prog) (off := 0) a9 z9 hb10' rfl
  have k1 := vload_of (P := Try.prog) (off := 1) a22 z22 hb10' rfl
  have k2 := vload_of (P := Try.prog) (off := 0) a9 z9 hb13 rfl
  have hs912 : s9.same s12 = true := by rw [S.same_eq, hs9, hs12]; simp
  obtain ⟨v14, st14, hc14, rfl, hk1314⟩ := same_ok gl st13 y9 x l l hy9' (hxk st13) (by omega) rfl
  have hc14 := ihCall_W hc14
  have hb14 : st14.box.get st12.ctr = some (.cells [.str s12, y12] 26 true (some 0)) := by rw [hk1314.box st12.ctr (by omega)]; exact hb13
  have k3 := vload_of (P := Try.prog) (off := 1) a22 z22 hb14 rfl
  obtain ⟨v15, st15, hc15, rfl, hk1415⟩ := same_ok gl st14 y12 x l l (hy12'.keep hk1314) (hxk st14) (by omega) rfl
  have hc15 := ihCall_W hc15
  refine Does.seq (Does.mono (Q := fun e fr' st' => e = AE.normal ∧ st' = st15 ∧ fr'.ds = [] ∧ fr'.gl = gl ∧ Fr.at fr' 0 = .str kn ∧ Fr.at fr' 2 = x) ?a9 ?b9)
  case a9 => as_aux_lemma =>
    refine Does.seq (Does.region ?_)
    refine Oks.cut 14 (fun fr' st' => st' = st13 ∧ fr'.ds = [] ∧ fr'.gl = gl ∧ Fr.at fr' 0 = .str kn ∧ Fr.at fr' 2 = x ∧ Fr.at fr' 17 = .ptr st9.ctr 0 ∧ Fr.at fr' 19 = .ptr st12.ctr 0 ∧ Fr.at fr' 140 = .bool false) ?p1 ?p2
    case p1 => as_aux_lemma =>
      simp [f0, f2, f17, f18, f19, f20, hds, hgl, vbin_neq, hf0, k0, k2, vbin_sneq, hs912]
    case p2 => as_aux_lemma =>
    rintro fr st' ⟨hst, hds, hgl, f0, f2, f17, f19, f140⟩
    rw [hst]
    clear hst
    simp [f2, f17, f19, f140, hgl, hf1, k1, k3, vcall_callable hk9, hc14, hc15]
    refine Does.condF (by simp) ?_
    refine Does.skip ?_
    simp [hds, hgl, f0, f2]
  case b9 => as_aux_lemma =>
  rintro e fr st' ⟨rfl, hst, hds, hgl, f0, f2⟩
  rw [hst]
  clear hst
  simp
  -- the words by themselves
  obtain ⟨v16, st16, hc16, hk1516, s16, y16, rfl, hs16, hy16, hyy16⟩ := parse_ok gl st15 kn x l 0 (l.length : Int) (hxk st15) (by omega) (fun s hs => by have := hw5 s hs; omega) (by omega)
  have hc16 := ihCall_W hc16
  obtain ⟨st17, q17, hk1617, hct17, hb17⟩ := opts_box st16 s16 y16 (OptR.one hyy16)
  refine Does.seq (Does.mono (Q := fun e fr' st' => e = AE.normal ∧ st' = st17 ∧ fr'.ds = [] ∧ fr'.gl = gl ∧ Fr.at fr' 0 = .str kn ∧ Fr.at fr' 21 = .ptr st16.ctr 0 ∧ Fr.at fr' 22 = .int .i64 ((parseS kn l 0 (l.length : Int)).2.2 : Int)) ?a10 ?b10)
  case a10 => as_aux_lemma =>
    refine Does.region ?_
    simp [f0, f2, hgl, hx0, vcall_callable hk8, hc16, valloc, hz26, hc26, hos, hon, mkRef, vact, q17, hds]
  case b10 => as_aux_lemma =>
  rintro e fr st' ⟨rfl, hst, hds, hgl, f0, f21, f22⟩
  rw [hst]
  clear hst
  simp
  have hgo : ¬ ((0 : Int) < 0 ∨ (l.length : Int) < 0 ∨ ¬ lettersOk kn) := by
    rintro (h | h | h)
    · omega
    · omega
    · exact h hok
  cases hsc : scan kn l [] with
  | none =>
    rw [parseS_none hgo hsc] at f22
    refine Does.seq (Does.seq (Does.region ?_))
    simp [f22, vbin_neq]
    refine Does.condT (by simp) ?_
    refine Does.seq (Does.region ?_)
    simp [f22, vbin_eql]
    refine Does.ret ?_
    simp [hds]
  | some p =>
    obtain ⟨t, r⟩ := p
    have hrl : r.length ≤ l.length := scan_len kn l [] (t, r) hsc
    have htk : ∀ b ∈ t, b ∈ kn.toList := scan_known l [] (t, r) hsc (fun b hb => by cases hb)
    rw [parseS_of hok hsc (by omega)] at f22 hs16 hy16
    have hr5 : ∀ s ∈ r, s.n < 5000 := by
      have : ∀ (l : List S) (acc : List UInt8) (p : List UInt8 × List S), scan kn l acc = some p → ∀ s ∈ p.2, s ∈ l := by
        intro l
        induction l with
        | nil => intro acc p h s hs; simp only [scan, Option.some.injEq] at h; subst h; exact hs
        | cons w q ih =>
          intro acc p h s hs
          simp only [scan] at h
          split at h
          · split at h
            · simp only [Option.some.injEq] at h; subst h; exact List.mem_cons_of_mem _ hs
            · split at h
              · exact List.mem_cons_of_mem _ (ih _ p h s hs)
              · cases h
          · simp only [Option.some.injEq] at h; subst h; exact hs
      exact fun s hs => hw5 s (this l [] (t, r) hsc s hs)
    refine Does.seq (Does.seq (Does.region ?_))
    simp [f22, vbin_neq]
    refine Does.condF (by simp) ?_
    refine Does.skip ?_
    simp
    refine Does.seq (Does.region ?_)
    simp
    have m0 := vload_of (P := Try.prog) (off := 0) a9 z9 hb17 rfl
    have m1 := vload_of (P := Try.prog) (off := 1) a22 z22 hb17 rfl
    -- Set as a word
    refine Does.seq (Does.mono (Q := fun e fr' st' => e = AE.normal ∧ Keep st17 st' ∧ fr'.ds = [] ∧ fr'.gl = gl ∧ Fr.at fr' 0 = .str kn ∧ Fr.at fr' 21 = .ptr st16.ctr 0 ∧ AgainAt st17.ctr st' fr' (setOf t)) ?a11 ?b11)
    case a11 => as_aux_lemma =>
      refine Does.seq (Does.region ?_)
      have he : s16.same (S.ofList []) = decide (setOf t = []) := by
        rw [S.same_eq, hs16]
        have : (S.ofList []).toList = [] := rfl
        rw [this]
        cases setOf t <;> rfl
      simp [f21, hf0, m0, vbin_sneq, he]
      by_cases hem : setOf t = []
      · refine Does.condF (by simp [hem]) ?_
        refine Does.skip ?_
        simp
        exact ⟨.refl _, hds, hgl, f0, f21, .nils, [], by simp, .nils, .inl ⟨hem, rfl⟩⟩
      · refine Does.condT (by simp [hem]) ?_
        refine Does.region ?_
        have hsn : s16.n ≤ 256 := by rw [← S.len, hs16]; exact setFrom_len t 256 0
        have ha1 : ∀ kk, vbin Try.prog kk .add 9 (.str (S.ofList [45])) (.str s16) = some (.str ((S.ofList [45]).app s16)) := fun kk => vbin_sadd (by show 1 + s16.n ≤ maxStr; simp only [maxStr]; omega)
        have hw1 : ((S.ofList [45]).app s16).toList = 45 :: setOf t := by rw [S.toList_app, hd1, hs16]; rfl
        generalize (S.ofList [45]).app s16 = w1 at ha1 hw1
        have hb1 := build_one w1
        have o1 : oneC (.str w1) = true := rfl
        simp [f21, hf0, m0, ha1, valloc, mkRef, evParts, hb1, o1]
        exact ⟨(Keep.refl st17).new _, hds, hgl, f0, .ms st17.ctr 0 1 1 (some 1), [w1], by simp, Ow.build st17 [w1] 1 rfl, .inr ⟨w1, hem, rfl, hw1⟩⟩
    case b11 => as_aux_lemma =>
    rintro e fr st18 ⟨rfl, hk1718, hds, hgl, f0, f21, again, us, f23, hag, hus⟩
    simp
    have husl : us.length ≤ 1 := by rcases hus with ⟨_, rfl⟩ | ⟨_, _, rfl, _⟩ <;> simp
    have hc1718 := hk1718.ctr
    let stS : St := { ctr := st18.ctr + 7, box := st18.box }
    let stA : St := { ctr := st18.ctr + 7, box := st18.box.put (st18.ctr + 1) (.cells [.str dd] 9 true (some 0)) }
    have hkS : Keep st18 stS := ⟨by show st18.ctr ≤ st18.ctr + 7; omega, fun _ _ => rfl⟩
    have hkA : Keep st18 stA := ⟨by show st18.ctr ≤ st18.ctr + 7; omega, fun i hi => by simp only [stA, Tr.get_put]; rw [if_neg (by omega)]⟩
    have hodA : Ow st18.ctr stA (.ms (st18.ctr + 1) 0 1 1 (some 1)) [dd] := .ms (st18.ctr + 1) (some 1) true [dd] (by simp [stA, Tr.get_put]) (by omega) (by show st18.ctr + 1 < st18.ctr + 7; omega) (.inr rfl)
    obtain ⟨zA, stB, n1, n2, n3, n4, _, _, _⟩ := Ow.app (lo := st17.ctr) (by show st17.ctr ≤ st18.ctr + 7; omega) (hag.keep hkA) hodA.vw (by simp; omega)
    have n3' : st18.ctr + 7 ≤ stB.ctr := n3
    have hk17B : Keep st17 stB := ⟨by omega, fun i hi => by rw [n4 i hi, hkA.box i (by omega)]; exact hk1718.box i hi⟩
    have hyB : Vw stB y16 r := (hy16.keep hk1617).keep hk17B
    obtain ⟨zB, stC, p1, p2, p3, p4, _, _, _⟩ := Ow.app (lo := st17.ctr) (by omega) n2 hyB (by simp; omega)
    have hk17C : Keep st17 stC := ⟨by omega, fun i hi => by rw [p4 i hi]; exact hk17B.box i hi⟩
    have hbS : stS.box.get st16.ctr = some (.cells [.str s16, y16] 26 true (some 0)) := by show st18.box.get st16.ctr = _; rw [hk1718.box st16.ctr (by omega)]; exact hb17
    have hbB : stB.box.get st16.ctr = some (.cells [.str s16, y16] 26 true (some 0)) := by rw [hk17B.box st16.ctr (by omega)]; exact hb17
    have hbC : stC.box.get st16.ctr = some (.cells [.str s16, y16] 26 true (some 0)) := by rw [hk17C.box st16.ctr (by omega)]; exact hb17
    have mS := vload_of (P := Try.prog) (off := 1) a22 z22 hbS rfl
    have mB := vload_of (P := Try.prog) (off := 1) a22 z22 hbB rfl
    have hveq : veq 300 y16 y16 = true := by rcases hyy16 with rfl | ⟨_, _, _, rfl, _⟩ <;> simp [veq]
    refine Does.seq (Does.mono (Q := fun e fr' st' => e = AE.normal ∧ st' = stC ∧ fr'.ds = [] ∧ fr'.gl = gl ∧ Fr.at fr' 0 = .str kn ∧ Fr.at fr' 21 = .ptr st16.ctr 0 ∧ Fr.at fr' 23 = zB) ?a12 ?b12)
    case a12 => as_aux_lemma =>
      refine Does.draw (b := [0, 0, 3, 0, 8, 31, 63]) (l := [0, 1, 2, 3, 4, 5, 6]) (by kernel_rfl) (by kernel_rfl) (by kernel_rfl) ?_
      have hb1 := build_one dd
      have o1 : oneC (.str dd) = true := rfl
      simp only [stA] at n1
      simp only [stS] at mS
      simp [hddw, xDraw, xStep, sameIn, f21, f23, valloc, mkRef, evParts, hb1, o1, vact, hu, n1, hf1, mS, mB, hveq, p1, hds, hgl, f0]
    case b12 => as_aux_lemma =>
    rintro e fr st' ⟨rfl, hst, hds, hgl, f0, f21, f23⟩
    rw [hst]
    clear hst
    simp
    have mC := vload_of (P := Try.prog) (off := 1) a22 z22 hbC rfl
    have hyC : Vw stC y16 r := (hy16.keep hk1617).keep hk17C
    have hyl := hyC.len u22
    have hsetk : ∀ b ∈ setOf t, b ∈ kn.toList := fun b hb => htk b ((mem_setOf t b).1 hb)
    have hag2 : scan kn (us ++ [dd] ++ r) [] = some (setOf t, r) := by
      rw [List.append_assoc]
      exact scan_again hok hdd hsetk hus
    have hp18 : parseS kn (us ++ [dd] ++ r) (r.length : Int) (r.length : Int) = (setOf t, r, 0) := by
      rw [parseS_same hok hag2, setOf_congr (mem_setOf t)]
    obtain ⟨v19, st19, hc19, hkC19, s19, y19, rfl, hs19, hy19, hyy19⟩ := parse_ok gl stC kn zB (us ++ [dd] ++ r) (r.length : Int) (r.length : Int) p2.vw (by simp; omega) (fun s hs => by
      rcases List.mem_append.1 hs with hs | hs
      · rcases List.mem_append.1 hs with hs | hs
        · rcases hus with ⟨_, rfl⟩ | ⟨w, _, rfl, hw⟩
          · cases hs
          · rw [List.mem_singleton.1 hs]
            have g : w.n = (setOf t).length + 1 := by rw [← S.len, hw]; rfl
            have := setFrom_len t 256 0
            have : (setOf t).length ≤ 256 := this
            omega
        · rw [List.mem_singleton.1 hs, hdn]; omega
      · have := hr5 s hs; omega) (by omega)
    have hc19 := ihCall_W hc19
    rw [hp18] at hc19 hs19 hy19
    obtain ⟨st20, q20, hk1920, hct20, hb20⟩ := opts_box st19 s19 y19 (OptR.one hyy19)
    have hkC20 : Keep stC st20 := hkC19.trans hk1920
    refine Does.seq (Does.mono (Q := fun e fr' st' => e = AE.normal ∧ st' = st20 ∧ fr'.ds = [] ∧ fr'.gl = gl ∧ Fr.at fr' 21 = .ptr st16.ctr 0 ∧ Fr.at fr' 24 = .ptr st19.ctr 0 ∧ Fr.at fr' 25 = .int .i64 0) ?a13 ?b13)
    case a13 => as_aux_lemma =>
      refine Does.region ?_
      simp [f0, f21, f23, hgl, hf1, mC, hyl, vcall_callable hk8, hc19, valloc, hz26, hc26, hos, hon, mkRef, vact, q20, hds]
    case b13 => as_aux_lemma =>
    rintro e fr st' ⟨rfl, hst, hds, hgl, f21, f24, f25⟩
    rw [hst]
    clear hst
    simp
    have hb20' : st20.box.get st16.ctr = some (.cells [.str s16, y16] 26 true (some 0)) := by rw [hkC20.box st16.ctr (by have := hk17C.ctr; omega)]; exact hbC
    have r0 := vload_of (P := Try.prog) (off := 0) a9 z9 hb20 rfl
    have r1 := vload_of (P := Try.prog) (off := 1) a22 z22 hb20 rfl
    have r2 := vload_of (P := Try.prog) (off := 0) a9 z9 hb20' rfl
    have r3 := vload_of (P := Try.prog) (off := 1) a22 z22 hb20' rfl
    have hsame : s19.same s16 = true := by rw [S.same_eq, hs19, hs16]; simp
    obtain ⟨v21, st21, hc21, rfl, _⟩ := same_ok gl st20 y19 y16 r r (hy19.keep hk1920) (hyC.keep hkC20) (by omega) rfl
    have hc21 := ihCall_W hc21
    refine Does.seq (Does.region ?_)
    simp [f21, f24, f25, hgl, vbin_eql, hf0, hf1, r0, r1, r2, r3, vbin_seql, hsame, vcall_callable hk9, hc21]
    refine Does.ret ?_
    simp [hds]

end Go.Vm
