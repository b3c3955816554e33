/- opts.Parse does what the document says, by the evaluator's equations. Conditions: fewer than 5000 words, each below 5000 bytes; the known letters are 1000 at most; the words' slice is not nil. -/
import Derived.Test.YtajfpccgknoafaaRowB
namespace Go.Vm
open Go Go.Proofs
attribute [local simp] Oks xOps vwanted isDefer vop kindOf vpure ev evs toV andThen inBlock atTo_some Fr.dsTo Fr.glTo Fr.toNone initFr_at initFr_ds initFr_gl veff traverse tupled vresult V.undef

theorem Vw.put {st : St} {id off n z : Nat} {cap : Option Nat} {l : List S} (h : Vw st (.ms id off n z cap) l) {j : Nat} (hj : id ≠ j) (x : Bx) : Vw { st with box := st.box.put j x } (.ms id off n z cap) l := by
  cases h with
  | ms id off cap cs e fl fz l hb hl hlt hid hcap => exact .ms id off cap cs e fl fz l (by simp [Tr.get_put, hj, hb]) hl hlt hid hcap

/-- bytes told, as a slice of its own memory -/
inductive Bv (lo : Nat) (st : St) : V → List UInt8 → Prop
  | nils : Bv lo st .nils []
  | ms (id : Nat) (bs : List UInt8) (hb : st.box.get id = some (.cells (bs.map fun b => .int .u8 (b.toNat : Int)) 5 false (some 0))) (h1 : lo ≤ id) (h2 : id < st.ctr) : Bv lo st (.ms id 0 bs.length 1 none) bs

theorem Bv.keep {lo : Nat} {st st' : St} (h : Keep st st') {v : V} {bs : List UInt8} (hv : Bv lo st v bs) : Bv lo st' v bs := by
  cases hv with
  | nils => exact .nils
  | ms id bs hb h1 h2 => exact .ms id bs (by rw [h.box id h2]; exact hb) h1 (Nat.lt_of_lt_of_le h2 h.ctr)

theorem i5 : Try.prog.info? 5 = some Try.t5 := by kernel_rfl
theorem zv5 : zeroT Try.prog 5 = some (.int .u8 0) := by kernel_rfl

theorem Bv.str {lo : Nat} {st : St} {v : V} {bs : List UInt8} (hv : Bv lo st v bs) : vconv Try.prog st 40 9 v = some (.str (S.ofList bs)) := by
  have hbs : ∀ bs : List UInt8, bytesOf (bs.map fun b => V.int .u8 (b.toNat : Int)) = some bs := fun bs => by
    induction bs with
    | nil => rfl
    | cons b bs ih => simp [bytesOf, ih]
  cases hv with
  | nils => simp [vconv, Try.underlying40, Try.underlying9, Try.underlying5, sliceCells, bytesOf]
  | ms id bs hb h1 h2 =>
    have hs : sliceCells st 1 (.ms id 0 bs.length 1 none) = some (bs.map fun b => V.int .u8 (b.toNat : Int), bs.length) := by
      have h3 : Nat.ble (0 + bs.length * 1) (bs.map fun b => V.int .u8 (b.toNat : Int)).length = true := Nat.ble_eq_true_of_le (by simp)
      simp only [sliceCells, hb, h3]
      congr 2
      simp only [sub, List.drop_zero, Nat.mul_one]
      rw [List.take_of_length_le (by simp)]
    simp only [vconv, Try.underlying40, Try.underlying9, Try.underlying5, hs, hbs]

/-- one more byte -/
theorem Bv.add {lo : Nat} {st : St} {v : V} {bs : List UInt8} (hv : Bv lo st v bs) (hlen : bs.length < 1000) (c : UInt8) {id2 : Nat} (hid : id2 < st.ctr) (hlo : lo ≤ id2) (hb2 : st.box.get id2 = some (.cells [.int .u8 (c.toNat : Int)] 5 true (some 0))) :
    ∃ y st', vappend Try.prog st 40 v (.ms id2 0 1 1 (some 1)) = some (y, st') ∧ Bv lo st' y (bs ++ [c]) ∧ st.ctr ≤ st'.ctr ∧ (∀ id, id < lo → st'.box.get id = st.box.get id) ∧ y ≠ .nils := by
  have hlo' : lo ≤ st.ctr := by omega
  have hsrc : srcCells st 1 (.ms id2 0 1 1 (some 1)) = some ([.int .u8 (c.toNat : Int)], 1) := by simp [srcCells, sliceCells, hb2, sub]
  have hu : Try.prog.underlying 40 = some (.slice 5) := Try.underlying40
  have hone : [V.int .u8 (c.toNat : Int)].all oneC = true := rfl
  have hcell : (V.int .u8 0).cells = [.int .u8 0] := rfl
  cases hv with
  | nils =>
    refine ⟨.ms st.ctr 0 1 1 none, { ctr := st.ctr + 1, box := st.box.put st.ctr (.cells [.int .u8 (c.toNat : Int)] 5 false (some 0)) }, ?_, ?_, Nat.le_succ _, fun i hi => by rw [Tr.get_put, if_neg (by omega)], fun h => by cases h⟩
    · simp only [vappend, hu, i5, zv5]
      have h0 : sliceCells st 1 .nils = some ([], 0) := rfl
      show (match srcCells st 1 (.ms id2 0 1 1 (some 1)), sliceCells st 1 .nils with
        | some (news, m), some (olds, n) => _
        | _, _ => none) = _
      rw [hsrc, h0]
      rfl
    · exact .ms st.ctr [c] (by simp [Tr.get_put]) hlo' (Nat.lt_succ_self _)
  | ms id bs hb h1 h2 =>
    have hs : sliceCells st 1 (.ms id 0 bs.length 1 none) = some (bs.map fun b => V.int .u8 (b.toNat : Int), bs.length) := by
      have h3 : Nat.ble (0 + bs.length * 1) (bs.map fun b => V.int .u8 (b.toNat : Int)).length = true := Nat.ble_eq_true_of_le (by simp)
      simp only [sliceCells, hb, h3]
      congr 2
      simp only [sub, List.drop_zero, Nat.mul_one]
      rw [List.take_of_length_le (by simp)]
    have e1 : Nat.ble ((bs.length + 1) * 1) maxBytes = true := Nat.ble_eq_true_of_le (by simp only [maxBytes]; omega)
    have e2 : Nat.ble (bs.length + 1) maxBytes = true := Nat.ble_eq_true_of_le (by simp only [maxBytes]; omega)
    have e3 : Nat.ble (0 + (bs.length + 1) * 1) (bs.map fun b => V.int .u8 (b.toNat : Int)).length = false := by
      cases h : Nat.ble (0 + (bs.length + 1) * 1) (bs.map fun b => V.int .u8 (b.toNat : Int)).length with
      | false => rfl
      | true => have := Nat.le_of_ble_eq_true h; simp at this; omega
    have e4 : Nat.ble 0 (0 + bs.length * 1) = true := Nat.ble_eq_true_of_le (Nat.zero_le _)
    refine ⟨.ms st.ctr 0 (bs.length + 1) 1 none, { ctr := st.ctr + 1, box := (st.box.del id).put st.ctr (.cells ((bs ++ [c]).map fun b => V.int .u8 (b.toNat : Int)) 5 false (some 0)) }, ?_, ?_, Nat.le_succ _, fun i hi => by rw [Tr.get_put, if_neg (by omega), Tr.get_del, if_neg (by omega)], fun h => by cases h⟩
    · simp only [vappend, hu, i5, zv5]
      show (match srcCells st 1 (.ms id2 0 1 1 (some 1)), sliceCells st 1 (.ms id 0 bs.length 1 none) with
        | some (news, m), some (olds, n) => _
        | _, _ => none) = _
      rw [hsrc, hs]
      simp only [hb]
      have b1 : Nat.beq 1 0 = false := rfl
      have t1 : Try.t5.bytes = 1 := rfl
      have t2 : Try.t5.size = 1 := rfl
      simp only [b1, t1, t2, e1, e2, hone, hcell, roomOf, e3, fzOk, e4, List.length_singleton, Nat.beq_refl, Bool.and_self, Bool.true_and, Bool.and_true]
      simp [fzSub]
    · have := Bv.ms (lo := lo) (st := { ctr := st.ctr + 1, box := (st.box.del id).put st.ctr (.cells ((bs ++ [c]).map fun b => V.int .u8 (b.toNat : Int)) 5 false (some 0)) }) st.ctr (bs ++ [c]) (by simp [Tr.get_put]) hlo' (Nat.lt_succ_self _)
      simpa using this

/-! ## the answer's memory -/
theorem store_two {st : St} {id : Nat} {a b c d : V} (hc : oneC c = true) (hd : oneC d = true) (hb : st.box.get id = some (.cells [a, b] 26 true (some 0))) :
    vstore Try.prog st 26 (.ptr id 0) (.agg [c, d]) = some { st with box := st.box.put id (.cells [c, d] 26 true (some 0)) } ∧
      vload Try.prog { st with box := st.box.put id (.cells [c, d] 26 true (some 0)) } 26 (.ptr id 0) = some (.agg [c, d]) := by
  have hs : sizeT Try.prog 26 = some 2 := by kernel_rfl
  have ha : isAggT Try.prog 26 = some true := by kernel_rfl
  constructor
  · simp only [vstore, hs, hb, V.cells]
    simp [hc, hd, fzOk, over]
    rfl
  · simp only [vload, Tr.get_put, if_true, vpart, ha, hs]
    rfl

theorem vslice_from {P : Program} {T : TypeId} {k : IntKind} (hT : P.underlying T = some .string) {s : S} {lo : Nat} (h1 : lo ≤ s.n) : vslice P T (.str s) (some (.int k (lo : Int))) none = some (.str (s.cut lo s.n)) := by
  have e1 : Nat.ble lo s.n = true := Nat.ble_eq_true_of_le h1
  simp only [vslice, hT, bound, asNat_cast, e1, ble_self]
  rfl

theorem dash_eq {w : S} (h2 : 2 ≤ w.n) (h0 : w.at 0 = 45) : w.same dashes = (w.cut 1 w.n).same (S.ofList [45]) := by
  rw [S.same_eq, S.same_eq]
  have h1 : w.toList = 45 :: w.toList.drop 1 := by
    have := S.drop_at w (i := 0) (by omega)
    rw [List.drop_zero] at this
    rw [this, h0]
    rfl
  have e1 : dashes.toList = [45, 45] := dec_enc _
  have e2 : (S.ofList [45]).toList = [45] := dec_enc _
  have e3 : (w.cut 1 w.n).toList = w.toList.drop 1 := by
    rw [S.toList_cut w (by omega) (Nat.le_refl _), List.take_of_length_le (by simp [S.len])]
  rw [e1, e2, e3, h1]
  simp

theorem cut_from (w : S) (h : 1 ≤ w.n) : (w.cut 1 w.n).toList = w.toList.drop 1 := by
  rw [S.toList_cut w h (Nat.le_refl _), List.take_of_length_le (by simp [S.len])]

/-- which letters were told -/
def Td (id : Nat) (st : St) (t : List UInt8) : Prop := ∃ cs, st.box.get id = some (.cells cs 38 true (some 0)) ∧ cs.length = 256 ∧ ∀ c, c < 256 → cs[c]? = some (.bool (decide (UInt8.ofNat c ∈ t)))

theorem Td.add {id : Nat} {st : St} {t : List UInt8} (h : Td id st t) {b : Nat} (hb : b < 256) :
    ∃ st', vstore Try.prog st 4 (.ptr id b) (.bool true) = some st' ∧ Td id st' (t ++ [UInt8.ofNat b]) ∧ st'.ctr = st.ctr ∧ ∀ i, i ≠ id → st'.box.get i = st.box.get i := by
  obtain ⟨cs, h1, h2, h3⟩ := h
  have hs : sizeT Try.prog 4 = some 1 := by kernel_rfl
  refine ⟨_, vstore_one hs h1 (by rw [h2]; exact hb) rfl, ⟨cs.set b (.bool true), by simp [Tr.get_put], by simpa using h2, fun c hc => ?_⟩, rfl, fun i hi => by simp [Tr.get_put, hi]⟩
  by_cases hcb : c = b
  · subst hcb
    simp [h2, hc]
  · rw [List.getElem?_set_ne (Ne.symm hcb), h3 c hc]
    have : UInt8.ofNat c ≠ UInt8.ofNat b := fun h => hcb ((byte_eq hc hb).1 h)
    simp [this]

theorem Td.init {id : Nat} {st : St} (h : st.box.get id = some (.cells (List.replicate 256 (.bool false)) 38 true (some 0))) : Td id st [] :=
  ⟨_, h, List.length_replicate, fun c hc => by rw [List.getElem?_replicate, if_pos hc]; rfl⟩

/-- what is handed back -/
def OptR (st : St) (p : List UInt8 × List S × Nat) (v : V) (st' : St) : Prop :=
  Keep st st' ∧ ∃ s y, v = .tup [.agg [.str s, y], .int .i64 (p.2.2 : Int)] ∧ s.toList = p.1 ∧ Vw st' y p.2.1 ∧ (y = .nils ∨ ∃ id n cap, y = .ms id 0 n 1 cap ∧ st.ctr ≤ id)

/-- refused -/
theorem OptR.bad {st st' : St} (h : Keep st st') (x : Bx) (e : Nat) : OptR st ([], [], e) (.tup [.agg [.str ⟨0, 0⟩, .nils], .int .i64 (e : Int)]) { st' with box := st'.box.put st.ctr x } :=
  ⟨h.put (Nat.le_refl _) x, ⟨0, 0⟩, .nils, rfl, rfl, .nils, .inl rfl⟩

/-- the words are cut -/
def WordsDone (st st' : St) (fr : Fr) (kn : S) (l : List S) : Prop := ∃ y r t, Fr.at fr 1 = y ∧ Vw st y r ∧ r.length ≤ l.length ∧ Td (st.ctr + 1) st' t ∧ scan kn l [] = some (t, r)
/-- so far -/
def WordsAt (st st' : St) (fr : Fr) (kn : S) (l : List S) (r : List S) : Prop := ∃ y t, Fr.at fr 1 = y ∧ Vw st y r ∧ Td (st.ctr + 1) st' t ∧ scan kn l [] = scan kn r t

/-- of a word's letters so many are told -/
def InnerAt (id : Nat) (st' : St) (kn u : S) (t : List UInt8) (j : Nat) : Prop := ∃ pre, pre ++ u.toList.drop j = u.toList ∧ (pre.all fun b => decide (b ∈ kn.toList)) = true ∧ Td id st' (t ++ pre)

theorem addr_38 (id b : Nat) (hb : b < 256) : vindexAddr Try.prog 38 (.ptr id 0) (.int .u8 (b : Int)) = some (.ptr id b) := by
  have hT : Try.prog.underlying 38 = some (.array 256 4) := Try.underlying38
  have hs : sizeT Try.prog 4 = some 1 := by kernel_rfl
  have h1 : Nat.blt b 256 = true := by rw [blt_dec]; exact decide_eq_true hb
  simp only [vindexAddr, hT, asNat_cast, hs, h1]
  simp

/-- so far their row -/
def SetAt (lo : Nat) (st' : St) (fr : Fr) (t : List UInt8) (k : Nat) : Prop := ∃ v bs, Fr.at fr 15 = v ∧ Bv lo st' v bs ∧ bs ++ setFrom t (256 - k) k = setOf t ∧ bs.length ≤ 256 - k

/-- a slot tells whether -/
def BadB (fr : Fr) (p : Prop) : Prop := ∃ b, Fr.at fr 10 = .bool b ∧ (b = true ↔ p)

theorem parse_ok [Memo] [NR] (gl : Gl) (st : St) (kn : S) (x : V) (l : List S) (least most : Int) (hx : Vw st x l) (hl : l.length < 100000) (hw : ∀ s ∈ l, s.n < 100000) (hkn : kn.n ≤ 1000) :
    ∃ v st', W Try.prog (.call gl 8 [.str kn, x, .int .i64 least, .int .i64 most]) st = .call (.val v st') ∧ OptR st (parseS kn l least most) v st' := by
  have hz26 : zeroT Try.prog 26 = some (.agg [.str ⟨0, 0⟩, .nils]) := by kernel_rfl
  have hbu : vbuild Try.prog 26 [] = some (.agg [.str ⟨0, 0⟩, .nils]) := by kernel_rfl
  have hkl := vlen_str Try.underlying9 (s := kn)
  have hk14 : callable Try.prog 14 = true := by kernel_rfl
  have hk15 : callable Try.prog 15 = true := by kernel_rfl
  have hos : oneC (.str ⟨0, 0⟩) = true := rfl
  have hon : oneC .nils = true := rfl
  have hc26 : (V.agg [.str ⟨0, 0⟩, .nils]).cells = [.str ⟨0, 0⟩, .nils] := rfl
  refine call_ex (NR.no _ rfl _ _) Try.func8 rfl (by kernel_rfl) ?_
  refine Does.seq (Does.region ?_)
  simp [valloc, hz26, hc26, hos, hon, mkRef]
  let st1 : St := { ctr := st.ctr + 1, box := st.box.put st.ctr (.cells [.str ⟨0, 0⟩, .nils] 26 true (some 0)) }
  have hk1 : Keep st st1 := (Keep.refl st).new _
  have ho1 : st1.box.get st.ctr = some (.cells [.str ⟨0, 0⟩, .nils] 26 true (some 0)) := by simp [st1, Tr.get_put]
  -- the numbers and the letters
  refine Does.seq (Does.mono (Q := fun e fr' st' => e = AE.normal ∧ st' = st1 ∧ fr'.ds = [] ∧ fr'.gl = gl ∧ Fr.at fr' 0 = .str kn ∧ Fr.at fr' 1 = x ∧ Fr.at fr' 2 = .int .i64 least ∧ Fr.at fr' 3 = .int .i64 most ∧ Fr.at fr' 8 = .ptr st.ctr 0 ∧
    Fr.at fr' 10 = .bool (decide (least < 0 ∨ most < least))) ?r1 ?tail1)
  case r1 =>
    refine Does.region ?_
    cases h1 : decide (least < 0)
    · simp [vbin_lss, h1]
      rfl
    · simp [vbin_lss, h1]
      rfl
  case tail1 =>
  rintro e fr st2 ⟨rfl, rfl, hds, hgl, f0, f1, f2, f3, f8, f10⟩
  simp
  refine Does.seq (Does.mono (Q := fun e fr' st' => e = AE.normal ∧ st' = st1 ∧ fr'.ds = [] ∧ fr'.gl = gl ∧ Fr.at fr' 0 = .str kn ∧ Fr.at fr' 1 = x ∧ Fr.at fr' 2 = .int .i64 least ∧ Fr.at fr' 3 = .int .i64 most ∧ Fr.at fr' 8 = .ptr st.ctr 0 ∧
    BadB fr' (least < 0 ∨ most < least ∨ ¬ lettersOk kn)) ?lloop ?tail2)
  case lloop =>
    refine Does.seq (Does.region ?_)
    simp [f0, hkl]
    refine Does.block (Does.inv (fun k fr st' => st' = st1 ∧ fr.ds = [] ∧ fr.gl = gl ∧ k ≤ kn.n ∧ Fr.at fr 0 = .str kn ∧ Fr.at fr 1 = x ∧ Fr.at fr 2 = .int .i64 least ∧ Fr.at fr 3 = .int .i64 most ∧ Fr.at fr 8 = .ptr st.ctr 0 ∧
      Fr.at fr 26 = .int .i64 ((kn.n : Nat) : Int) ∧ Fr.at fr 27 = .int .i64 ((kn.n - k : Nat) : Int) ∧ BadB fr (least < 0 ∨ most < least ∨ ∃ i, i < kn.n - k ∧ isLetter (kn.at i) = false)) kn.n ?init ?step)
    case init => exact ⟨rfl, by simp [hds], by simp [hgl], Nat.le_refl _, by simp [f0], by simp [f1], by simp [f2], by simp [f3], by simp [f8], by simp, by simp, decide (least < 0 ∨ most < least), by simp [f10], by simp⟩
    case step =>
      rintro k fr st' ⟨rfl, hds, hgl, hk, f0, f1, f2, f3, f8, f26, f27, hbb⟩
      refine Does.seq (Does.region ?_)
      simp [f26, f27, vbin_lss]
      refine Does.seq (Does.cond (c := decide (kn.n - k < kn.n)) (by simp) (fun hc => ?_) (fun hc => ?_))
      · have hc : kn.n - k < kn.n := of_decide_eq_true hc
        have hix := vindex_str (k := .i64) Try.underlying9 (s := kn) hc
        have hca := ihCall_W (letter_ok gl st1 (kn.at (kn.n - k)))
        have w27 : IntKind.i64.wrap (((kn.n - k : Nat) : Int) + 1) = ((kn.n - k : Nat) : Int) + 1 := wrap_i64 (by omega) (by omega)
        refine Does.skip ?_
        simp
        refine Does.seq (Does.block (Does.seq (Does.region ?_)))
        simp [f27]
        refine Does.region ?_
        have o1 : k - 1 < k := by clear hbb; omega
        have o2 : k - 1 ≤ kn.n := by clear hbb; omega
        have o3 : ((kn.n - k : Nat) : Int) + 1 = ((kn.n - (k - 1) : Nat) : Int) := by clear hbb; omega
        obtain ⟨b, f10, hb⟩ := hbb
        have key : ∀ b', (b' = true ↔ (b = true ∨ isLetter (kn.at (kn.n - k)) = false)) → (b' = true ↔ (least < 0 ∨ most < least ∨ ∃ i, i < kn.n - (k - 1) ∧ isLetter (kn.at i) = false)) := by
          intro b' h
          rw [h, hb]
          constructor
          · rintro ((h | h | ⟨i, h1, h2⟩) | h)
            · exact .inl h
            · exact .inr (.inl h)
            · exact .inr (.inr ⟨i, by omega, h2⟩)
            · exact .inr (.inr ⟨kn.n - k, by omega, h⟩)
          · rintro (h | h | ⟨i, h1, h2⟩)
            · exact .inl (.inl h)
            · exact .inl (.inr (.inl h))
            · by_cases hi : i = kn.n - k
              · subst hi; exact .inr h2
              · exact .inl (.inr (.inr ⟨i, by omega, h2⟩))
        cases b with
        | true =>
          simp [f10, f0]
          refine Does.region ?_
          simp [f27, vbin_add, w27]
          exact ⟨k - 1, o1, hds, hgl, o2, f0, f1, f2, f3, f8, f26, o3, true, by simp, key true (by simp)⟩
        | false =>
          simp [f10, f0, hgl, hix, vcall_callable hk14, hca]
          refine Does.region ?_
          simp [f27, vbin_add, w27]
          exact ⟨k - 1, o1, hds, hgl, o2, f0, f1, f2, f3, f8, f26, o3, !isLetter (kn.at (kn.n - k)), by simp, key (!isLetter (kn.at (kn.n - k))) (by simp)⟩
      · have hc : ¬ kn.n - k < kn.n := of_decide_eq_false hc
        refine Does.exit ?_
        simp
        obtain ⟨b, f10, hb⟩ := hbb
        refine ⟨hds, hgl, f0, f1, f2, f3, f8, b, by simp [f10], ?_⟩
        rw [hb]
        have : (∃ i, i < kn.n - k ∧ isLetter (kn.at i) = false) ↔ ¬ lettersOk kn := by
          constructor
          · rintro ⟨i, h1, h2⟩ h
            rw [h i (by omega)] at h2
            cases h2
          · intro h
            apply Classical.byContradiction
            intro hn
            refine h fun i hi => ?_
            cases hil : isLetter (kn.at i) with
            | true => rfl
            | false => exact absurd ⟨i, by omega, hil⟩ hn
        rw [this]
  case tail2 =>
  rintro e fr st2 ⟨rfl, rfl, hds, hgl, f0, f1, f2, f3, f8, b, f10, hb⟩
  simp
  refine Does.seq (Does.seq (Does.region ?_))
  simp [f10]
  cases b with
  | true =>
    have hp := parseS_bad (l := l) (hb.1 rfl)
    refine Does.condT (by simp) ?_
    refine Does.seq (Does.region ?_)
    obtain ⟨q1, q2⟩ := store_two (c := .str ⟨0, 0⟩) (d := .nils) rfl rfl ho1
    simp [evParts, hbu, vact, f8, q1]
    refine Does.ret ?_
    simp [f8, hds, q2]
    rw [hp]
    exact OptR.bad hk1 _ 1
  | false =>
    have hgo : ¬ (least < 0 ∨ most < least ∨ ¬ lettersOk kn) := fun h => by have := hb.2 h; cases this
    refine Does.condF (by simp) ?_
    refine Does.skip ?_
    simp
    have hz38 : zeroT Try.prog 38 = some (.agg (List.replicate 256 (.bool false))) := by kernel_rfl
    have ha38 : (List.replicate 256 (V.bool false)).all oneC = true := by kernel_rfl
    have hc38 : (V.agg (List.replicate 256 (.bool false))).cells = List.replicate 256 (.bool false) := rfl
    have hc1 : st1.ctr = st.ctr + 1 := rfl
    let st2 : St := { ctr := st1.ctr + 1, box := st1.box.put st1.ctr (.cells (List.replicate 256 (.bool false)) 38 true (some 0)) }
    have hk2 : Keep st st2 := hk1.new _
    have ho2 : st2.box.get st.ctr = some (.cells [.str ⟨0, 0⟩, .nils] 26 true (some 0)) := by
      simp only [st2, Tr.get_put, hc1]
      rw [if_neg (by omega)]
      exact ho1
    have ht2 : Td (st.ctr + 1) st2 [] := .init (by show (st1.box.put st1.ctr _).get (st.ctr + 1) = _; rw [Tr.get_put, if_pos hc1.symm])
    have hr2 : st2.ctr = st.ctr + 2 := rfl
    refine Does.seq (Does.mono (Q := fun e fr' st' => e = AE.normal ∧ st' = st2 ∧ fr'.ds = [] ∧ fr'.gl = gl ∧ Fr.at fr' 0 = .str kn ∧ Fr.at fr' 1 = x ∧ Fr.at fr' 2 = .int .i64 least ∧ Fr.at fr' 3 = .int .i64 most ∧ Fr.at fr' 8 = .ptr st.ctr 0 ∧ Fr.at fr' 12 = .ptr (st.ctr + 1) 0) ?r9 ?tail9)
    case r9 =>
      refine Does.region ?_
      simp only [Oks, xOps, vwanted, isDefer, vop, kindOf, valloc, hz38, hc38, ha38, mkRef]
      exact ⟨trivial, rfl, by simp [hds], by simp [hgl], by simp [f0], by simp [f1], by simp [f2], by simp [f3], by simp [f8], by simp [hc1]⟩
    case tail9 =>
    rintro e fr st3 ⟨rfl, hst3, hds, hgl, f0, f1, f2, f3, f8, f12⟩
    rw [hst3]
    clear hst3 hz38 ha38 hc38
    clear_value st2
    simp
    -- the words
    refine Does.seq (Does.mono (Q := fun e fr' st' => Keep st st' ∧ st.ctr + 2 ≤ st'.ctr ∧ fr'.ds = [] ∧ fr'.gl = gl ∧ Fr.at fr' 8 = .ptr st.ctr 0 ∧ ((e = AE.normal ∧ st'.box.get st.ctr = some (.cells [.str ⟨0, 0⟩, .nils] 26 true (some 0)) ∧
        Fr.at fr' 2 = .int .i64 least ∧ Fr.at fr' 3 = .int .i64 most ∧ Fr.at fr' 12 = .ptr (st.ctr + 1) 0 ∧ WordsDone st st' fr' kn l) ∨
      (e = AE.ret ∧ scan kn l [] = none ∧ Fr.at fr' 9 = .int .i64 62 ∧ vload Try.prog st' 26 (.ptr st.ctr 0) = some (.agg [.str ⟨0, 0⟩, .nils])))) ?wloop ?wtail)
    case wtail =>
      rintro e fr st3 ⟨hkp, hct, hds, hgl, f8, ⟨rfl, ho, f2, f3, f12, y, r, t, f1, hy, hrl, htd, hscan⟩ | ⟨rfl, hscan, f9, hld⟩⟩
      rotate_left
      · have hp := parseS_none hgo hscan
        simp [hds, f8, f9, hld]
        rw [hp]
        exact ⟨hkp, ⟨0, 0⟩, .nils, rfl, rfl, .nils, .inl rfl⟩
      · have hy' := hy.keep hkp
        have hyl := hy'.len u22
        simp
        refine Does.seq (Does.seq (Does.region ?_))
        by_cases hnum2 : (r.length : Int) < least ∨ most < (r.length : Int)
        · have hp := parseS_many hgo hscan hnum2
          have fin : OptR st (parseS kn l least most) (.tup [.agg [.str ⟨0, 0⟩, .nils], .int .i64 62]) { st3 with box := st3.box.put st.ctr (.cells [.str ⟨0, 0⟩, .nils] 26 true (some 0)) } := by rw [hp]; exact OptR.bad hkp _ 62
          obtain ⟨q1, q2⟩ := store_two (c := .str ⟨0, 0⟩) (d := .nils) rfl rfl ho
          cases g1 : decide ((r.length : Int) < least)
          · have g2 : decide ((r.length : Int) > most) = true := decide_eq_true (by rcases hnum2 with h | h; exact absurd h (of_decide_eq_false g1); exact h)
            simp only [gt_iff_lt] at g2
            simp [f1, f2, f3, hyl, vbin_lss, vbin_gtr, g1, g2]
            refine Does.condT (by simp) ?_
            refine Does.seq (Does.region ?_)
            simp [evParts, hbu, vact, f8, q1]
            refine Does.ret ?_
            simp [f8, hds, q2]
            exact fin
          · simp [f1, f2, hyl, vbin_lss, g1]
            refine Does.condT (by simp) ?_
            refine Does.seq (Does.region ?_)
            simp [evParts, hbu, vact, f8, q1]
            refine Does.ret ?_
            simp [f8, hds, q2]
            exact fin
        · have hp := parseS_ok hgo hscan hnum2
          have g1 : decide ((r.length : Int) < least) = false := decide_eq_false fun h => hnum2 (.inl h)
          have g2 : decide ((r.length : Int) > most) = false := decide_eq_false fun h => hnum2 (.inr h)
          simp only [gt_iff_lt] at g2
          simp [f1, f2, f3, hyl, vbin_lss, vbin_gtr, g1, g2]
          refine Does.condF (by simp) ?_
          refine Does.skip ?_
          simp
          refine Does.seq (Does.region ?_)
          simp
          obtain ⟨cs, b1, b2, b3⟩ := htd
          have hl38 : vload Try.prog st3 38 (.ptr (st.ctr + 1) 0) = some (.agg cs) := by
            have ha : isAggT Try.prog 38 = some true := by kernel_rfl
            have hs : sizeT Try.prog 38 = some 256 := by kernel_rfl
            have h1 : Nat.ble (0 + 256) cs.length = true := Nat.ble_eq_true_of_le (by omega)
            simp only [vload, b1, vpart, ha, hs, h1]
            congr 2
            simp only [sub, List.drop_zero]
            rw [List.take_of_length_le (by omega)]
          have hi38 : ∀ c : Nat, c < 256 → vindex Try.prog 38 (.agg cs) (.int .i64 (c : Int)) = some (.bool (decide (UInt8.ofNat c ∈ t))) := fun c hc => by
            have hT : Try.prog.underlying 38 = some (.array 256 4) := Try.underlying38
            have hs : sizeT Try.prog 4 = some 1 := by kernel_rfl
            have ha : isAggT Try.prog 4 = some false := by kernel_rfl
            have h1 : Nat.blt c 256 = true := by rw [blt_dec]; exact decide_eq_true hc
            simp only [vindex, hT, asNat_cast, hs, h1, vpart, ha, Nat.mul_one, b3 c hc]
          -- the letters told, in their row
          refine Does.seq (Does.mono (Q := fun e fr2 st4 => e = AE.normal ∧ Keep st st4 ∧ st.ctr + 2 ≤ st4.ctr ∧ fr2.ds = [] ∧ fr2.gl = gl ∧ Fr.at fr2 1 = y ∧ Fr.at fr2 8 = .ptr st.ctr 0 ∧ st4.box.get st.ctr = some (.cells [.str ⟨0, 0⟩, .nils] 26 true (some 0)) ∧
            Bv (st.ctr + 2) st4 (Fr.at fr2 15) (setOf t)) ?sloop ?stail)
          case stail =>
            rintro e fr2 st4 ⟨rfl, hk4, hc4, hds, hgl, f1, f8, ho4, hbv⟩
            simp
            refine Does.seq ?_
            refine Does.draw (b := [0, 1, 0, 4, 15, 31, 63]) (l := [2, 3, 0, 1, 4, 5, 6]) (by kernel_rfl) (by kernel_rfl) (by kernel_rfl) ?_
            have hk16 : callable Try.prog 16 = true := by kernel_rfl
            let st5 : St := { ctr := st4.ctr + 7, box := st4.box }
            have hk45 : Keep st4 st5 := ⟨by show st4.ctr ≤ st4.ctr + 7; omega, fun _ _ => rfl⟩
            obtain ⟨z, st6, hcl, hvz, hk56, hzz⟩ := clone_ok gl st5 y r (hy.keep (hk4.trans hk45)) (by omega)
            have hoz : oneC z = true := by rcases hzz with rfl | ⟨_, _, _, rfl, _⟩ <;> rfl
            have hcl := ihCall_W hcl
            have hbv5 := hbv.keep hk45
            have hbv6 := hbv5.keep hk56
            generalize hv15 : Fr.at fr2 15 = v at hbv hbv5 hbv6
            have hs5 := hbv5.str
            have hs6 := hbv6.str
            have hvb : ∀ s : S, vbuild Try.prog 26 [(0, .str s), (1, z)] = some (.agg [.str s, z]) := fun s => by rcases hzz with rfl | ⟨_, _, _, rfl, _⟩ <;> kernel_rfl
            have ho6 : st6.box.get st.ctr = some (.cells [.str ⟨0, 0⟩, .nils] 26 true (some 0)) := by
              rw [hk56.box st.ctr (by show st.ctr < st4.ctr + 7; omega)]; exact ho4
            obtain ⟨q1, q2⟩ := store_two (c := .str (S.ofList (setOf t))) (d := z) rfl hoz ho6
            have hkr : kindOf Try.prog (.convert 40 9 (.tmp 106)) = .r := by kernel_rfl
            simp only [kindOf] at hkr
            simp only [st5] at hcl hs5
            simp [xDraw, xStep, sameIn, f1, f8, hgl, hv15, vcall_callable hk16, hcl, hkr, hs5, hs6, veq_str, evParts, hvb, vact, q1]
            refine Does.ret ?_
            simp [f8, hds, q2]
            rw [hp]
            have hk6 : Keep st st6 := (hk4.trans hk45).trans hk56
            refine ⟨hk6.put (Nat.le_refl _) _, S.ofList (setOf t), z, rfl, ofList_toList _, ?_, ?_⟩
            · rcases hzz with rfl | ⟨idz, nz, capz, rfl, hidz⟩
              · have : r = [] := by cases hvz; rfl
                subst this
                exact .nils
              · refine hvz.put ?_ _
                have : st4.ctr + 7 ≤ idz := hidz
                omega
            · rcases hzz with rfl | ⟨idz, nz, capz, rfl, hidz⟩
              · exact .inl rfl
              · exact .inr ⟨idz, nz, capz, rfl, by have : st4.ctr + 7 ≤ idz := hidz; omega⟩
          case sloop =>
            refine Does.seq (Does.region ?_)
            simp [f12, hl38]
            refine Does.block (Does.inv (fun k fr2 st4 => Keep st st4 ∧ st.ctr + 2 ≤ st4.ctr ∧ fr2.ds = [] ∧ fr2.gl = gl ∧ k ≤ 256 ∧ Fr.at fr2 1 = y ∧ Fr.at fr2 8 = .ptr st.ctr 0 ∧ Fr.at fr2 94 = .agg cs ∧ Fr.at fr2 95 = .int .i64 ((256 - k : Nat) : Int) ∧
              st4.box.get st.ctr = some (.cells [.str ⟨0, 0⟩, .nils] 26 true (some 0)) ∧ SetAt (st.ctr + 2) st4 fr2 t k) 256 ?sinit ?sstep)
            case sinit => exact ⟨hkp, hct, by simp [hds], by simp [hgl], Nat.le_refl _, by simp [f1], by simp [f8], by simp, by simp, ho, .nils, [], by simp, .nils, rfl, Nat.zero_le _⟩
            case sstep =>
              rintro k fr2 st4 ⟨hk4, hc4, hds, hgl, hk, f1, f8, f94, f95, ho4, v, bs, f15, hbv, hset, hbl⟩
              refine Does.seq (Does.region ?_)
              have h256 : decide (((256 - k : Nat) : Int) < 256) = decide (256 - k < 256) := by congr 1; simp; omega
              simp [f95, vbin_lss]
              refine Does.seq (Does.cond (c := decide (256 - k < 256)) (by rw [← h256]; simp) (fun hc => ?_) (fun hc => ?_))
              · have hc : 256 - k < 256 := of_decide_eq_true hc
                have w95 : IntKind.i64.wrap (((256 - k : Nat) : Int) + 1) = ((256 - k : Nat) : Int) + 1 := wrap_i64 (by omega) (by omega)
                have hst : setFrom t (256 - k) k = (if UInt8.ofNat (256 - k) ∈ t then [UInt8.ofNat (256 - k)] else []) ++ setFrom t (256 - (k - 1)) (k - 1) := by
                  obtain ⟨j, rfl⟩ : ∃ j, k = j + 1 := ⟨k - 1, by omega⟩
                  rw [setFrom_step, show 256 - (j + 1) + 1 = 256 - (j + 1 - 1) by omega]
                  rfl
                refine Does.skip ?_
                simp
                refine Does.seq (Does.block (Does.seq (Does.region ?_)))
                simp [f94, f95, hi38 _ hc]
                refine Does.seq (Does.region ?_)
                simp
                by_cases hmem : UInt8.ofNat (256 - k) ∈ t
                · refine Does.condT (by simp [hmem]) ?_
                  refine Does.region ?_
                  have hcb := conv_byte st4 (256 - k) hc
                  have hbs1 := bytes_one (256 - k)
                  have hkr2 : kindOf Try.prog (.convert 3 5 (.tmp 101)) = .r := by kernel_rfl
                  simp only [kindOf] at hkr2
                  let st5 : St := { ctr := st4.ctr + 1, box := st4.box.put st4.ctr (.cells [.int .u8 ((256 - k : Nat) : Int)] 5 true (some 0)) }
                  have hk45 : Keep st4 st5 := (Keep.refl st4).new _
                  have hto : (UInt8.ofNat (256 - k)).toNat = 256 - k := by simp; omega
                  obtain ⟨v', st6, c1, c2, c3, c4, _⟩ := (hbv.keep hk45).add (by omega) (UInt8.ofNat (256 - k)) (id2 := st4.ctr) (by show st4.ctr < st4.ctr + 1; omega) hc4 (by rw [hto]; simp [st5, Tr.get_put])
                  have hu40 : Try.prog.underlying 40 = some (.slice 5) := Try.underlying40
                  simp only [st5] at c1
                  simp [f15, f95, hkr2, hcb, valloc, mkRef, evParts, hbs1, oneC_int, vact, hu40, c1]
                  refine Does.region ?_
                  simp [f95, vbin_add, w95]
                  have c3' : st4.ctr + 1 ≤ st6.ctr := c3
                  refine ⟨k - 1, by omega, ⟨by have := hk4.ctr; omega, fun i hi => by rw [c4 i (by omega), hk45.box i (by have := hk4.ctr; omega)]; exact hk4.box i hi⟩, by omega, hds, hgl, by omega, f1, f8, f94, by omega, ?_, v', bs ++ [UInt8.ofNat (256 - k)], by simp, c2, ?_, ?_⟩
                  · rw [c4 st.ctr (by omega), hk45.box st.ctr (by omega)]; exact ho4
                  · rw [← hset, hst, if_pos hmem, List.append_assoc]
                  · simp; omega
                · refine Does.condF (by simp [hmem]) ?_
                  refine Does.skip ?_
                  simp
                  refine Does.region ?_
                  simp [f95, vbin_add, w95]
                  refine ⟨k - 1, by omega, hk4, hc4, hds, hgl, by omega, f1, f8, f94, by omega, ho4, v, bs, by simp [f15], hbv, ?_, by omega⟩
                  rw [← hset, hst, if_neg hmem]; rfl
              · have hc : ¬ 256 - k < 256 := of_decide_eq_false hc
                have hk0 : k = 0 := by omega
                subst hk0
                refine Does.exit ?_
                simp
                refine ⟨hk4, hc4, hds, hgl, f1, f8, ho4, ?_⟩
                rw [f15, ← hset]
                simpa [setFrom] using hbv
    case wloop =>
      refine Does.block (Does.inv (fun k fr st' => Keep st st' ∧ st.ctr + 2 ≤ st'.ctr ∧ fr.ds = [] ∧ fr.gl = gl ∧ k ≤ l.length ∧ Fr.at fr 0 = .str kn ∧ Fr.at fr 2 = .int .i64 least ∧ Fr.at fr 3 = .int .i64 most ∧ Fr.at fr 8 = .ptr st.ctr 0 ∧ Fr.at fr 12 = .ptr (st.ctr + 1) 0 ∧
        st'.box.get st.ctr = some (.cells [.str ⟨0, 0⟩, .nils] 26 true (some 0)) ∧ WordsAt st st' fr kn l (l.drop (l.length - k))) l.length ?winit ?wstep)
      case winit => exact ⟨hk2, by omega, by simp [hds], by simp [hgl], Nat.le_refl _, by simp [f0], by simp [f2], by simp [f3], by simp [f8], by simp [f12], ho2, x, [], by simp [f1], by simpa using hx, ht2, by simp⟩
      case wstep =>
        rintro k fr st' ⟨hkp, hct, hds, hgl, hk, f0, f2, f3, f8, f12, ho, y, t, f1, hy, htd, hscan⟩
        have hy' := hy.keep hkp
        have hyl := hy'.len u22
        refine Does.seq (Does.seq (Does.region ?_))
        have stay : ∀ (r : List S), l.drop (l.length - k) = r → scan kn r t = some (t, r) → scan kn l [] = some (t, r) := fun r h1 h2 => by rw [hscan, h1, h2]
        cases hr : l.drop (l.length - k) with
        | nil =>
          rw [hr] at hyl hy
          have hyl0 : vlen Try.prog 22 y = some (.int .i64 0) := hyl
          simp [f1, hyl0, vbin_gtr]
          refine Does.condF (by simp) ?_
          refine Does.exit ?_
          simp
          exact ⟨hkp, hct, hds, hgl, f8, ho, f2, f3, f12, y, [], t, by simp [f1], hy, by simp, htd, stay [] hr rfl⟩
        | cons w r =>
          have hrl : r.length + 1 ≤ l.length := by have := congrArg List.length hr; simp at this; omega
          have hwmem : w ∈ l := List.mem_of_mem_drop (by rw [hr]; exact List.mem_cons_self ..)
          have hwn := hw w hwmem
          rw [hr] at hyl hy hy' hscan
          have hyl1 : vlen Try.prog 22 y = some (.int .i64 ((r.length : Int) + 1)) := by rw [hyl]; simp
          have hpos : decide (((r.length : Int) + 1) > 0) = true := decide_eq_true (by omega)
          obtain ⟨p, g1', g2'⟩ := hy'.get u22 z9 a9 (i := 0) (by simp) (k := .i64)
          have g1 : vindexAddr Try.prog 22 y (.int .i64 0) = some p := g1'
          have g2 : vload Try.prog st' 9 p = some (.str w) := g2'
          have hwl := vlen_str Try.underlying9 (s := w)
          have hgt1 : decide ((w.n : Int) > 1) = decide (2 ≤ w.n) := by simp only [gt_iff_lt]; congr 1; simp; omega
          cases hw2 : decide (2 ≤ w.n)
          · have hopt : isOpt w = false := by simp only [isOpt, hw2, Bool.false_and]
            have hsc : scan kn (w :: r) t = some (t, w :: r) := by simp [scan, hopt]
            rw [hw2] at hgt1
            simp only [gt_iff_lt] at hpos hgt1
            simp [f1, hyl1, vbin_gtr, g1, g2, hwl, hpos, hgt1]
            refine Does.condF (by simp) ?_
            refine Does.exit ?_
            simp
            exact ⟨hkp, hct, hds, hgl, f8, ho, f2, f3, f12, y, w :: r, t, by simp [f1], hy, by simpa using hrl, htd, stay _ hr hsc⟩
          · have hw2' : 2 ≤ w.n := of_decide_eq_true hw2
            have hix0 : vindex Try.prog 9 (.str w) (.int .i64 0) = some (.int .u8 ((w.at 0 : Nat) : Int)) := vindex_str (k := .i64) Try.underlying9 (s := w) (i := 0) (by omega)
            have h45 : decide (((w.at 0 : Nat) : Int) = 45) = decide (w.at 0 = 45) := by congr 1; simp; omega
            rw [hw2] at hgt1
            simp only [gt_iff_lt] at hpos hgt1
            cases hw0 : decide (w.at 0 = 45)
            · have hopt : isOpt w = false := by simp only [isOpt, hw0, Bool.and_false]
              have hsc : scan kn (w :: r) t = some (t, w :: r) := by simp [scan, hopt]
              simp [f1, hyl1, vbin_gtr, g1, g2, hwl, hpos, hgt1, hix0, vbin_eql, h45, hw0]
              refine Does.condF (by simp) ?_
              refine Does.exit ?_
              simp
              exact ⟨hkp, hct, hds, hgl, f8, ho, f2, f3, f12, y, w :: r, t, by simp [f1], hy, by simpa using hrl, htd, stay _ hr hsc⟩
            · have hw0' : w.at 0 = 45 := of_decide_eq_true hw0
              have hopt : isOpt w = true := by simp only [isOpt, hw0, Bool.and_true]; exact decide_eq_true hw2'
              obtain ⟨y1, hy1, hyv⟩ := hy'.tail u22 z9 (lo := 1) (by simp) (k := .i64)
              have hy1' : vslice Try.prog 22 y (some (.int .i64 1)) none = some y1 := hy1
              obtain ⟨y2, hy2, hyv2⟩ := hy.tail u22 z9 (lo := 1) (by simp) (k := .i64)
              have hyv0 : Vw st y1 r := by
                have : y1 = y2 := by rw [hy1] at hy2; exact Option.some.inj hy2
                rw [this]; simpa using hyv2
              have hsl : vslice Try.prog 9 (.str w) (some (.int .i64 1)) none = some (.str (w.cut 1 w.n)) := vslice_from (k := .i64) Try.underlying9 (s := w) (lo := 1) (by omega)
              simp [f1, hyl1, vbin_gtr, g1, g2, hwl, hpos, hgt1, hix0, vbin_eql, h45, hw0]
              refine Does.condT (by simp) ?_
              refine Does.skip ?_
              simp
              refine Does.block (Does.seq (Does.region ?_))
              simp [f1, g1, g2, evOpt, hsl]
              refine Does.seq (Does.region ?_)
              simp [f1, evOpt, hy1']
              refine Does.seq (Does.seq (Does.region ?_))
              simp [vbin_seql]
              have hde := dash_eq hw2' hw0'
              have hcn : (w.cut 1 w.n).n = w.n - 1 := rfl
              have hcl : (w.cut 1 w.n).toList = w.toList.drop 1 := cut_from w (by omega)
              generalize w.cut 1 w.n = u at hde hcn hcl hsl
              cases hda : u.same (S.ofList [45])
              rotate_left
              · have hsc : scan kn (w :: r) t = some (t, r) := by simp [scan, hopt, hde, hda]
                refine Does.condT (by simp) ?_
                refine Does.exit ?_
                simp
                exact ⟨hkp, hct, hds, hgl, f8, ho, f2, f3, f12, y1, r, t, by simp, hyv0, by omega, htd, by rw [hscan, hsc]⟩
              · have hsc : scan kn (w :: r) t = if known kn w = true then scan kn r (t ++ w.toList.drop 1) else none := by simp [scan, hopt, hde, hda]
                refine Does.condF (by simp) ?_
                refine Does.skip ?_
                simp
                refine Does.seq (Does.region ?_)
                have hul := vlen_str Try.underlying9 (s := u)
                simp [hul]
                refine Does.mono (Q := fun e fr3 st3 => Keep st st3 ∧ st.ctr + 2 ≤ st3.ctr ∧ fr3.ds = [] ∧ fr3.gl = gl ∧ Fr.at fr3 8 = .ptr st.ctr 0 ∧ ((e = AE.normal ∧ known kn w = true ∧ st3.box.get st.ctr = some (.cells [.str ⟨0, 0⟩, .nils] 26 true (some 0)) ∧
                    Fr.at fr3 0 = .str kn ∧ Fr.at fr3 2 = .int .i64 least ∧ Fr.at fr3 3 = .int .i64 most ∧ Fr.at fr3 12 = .ptr (st.ctr + 1) 0 ∧ Fr.at fr3 1 = y1 ∧ Td (st.ctr + 1) st3 (t ++ w.toList.drop 1)) ∨
                  (e = AE.ret ∧ known kn w = false ∧ Fr.at fr3 9 = .int .i64 62 ∧ vload Try.prog st3 26 (.ptr st.ctr 0) = some (.agg [.str ⟨0, 0⟩, .nils])))) ?iloop ?itail
                case itail =>
                  rintro e fr3 st3 ⟨hkp3, hct3, hds, hgl, f8, ⟨rfl, hkw, ho3, f0, f2, f3, f12, f1', htd3⟩ | ⟨rfl, hkw, f9, hld⟩⟩
                  · simp
                    have hr' : l.drop (l.length - (k - 1)) = r := by
                      have h1 : l.length - (k - 1) = (l.length - k) + 1 := by
                        have : k ≠ 0 := fun h => by subst h; simp at hr
                        omega
                      rw [h1, ← List.drop_drop, hr]; rfl
                    refine ⟨k - 1, ?_, hkp3, hct3, hds, hgl, by omega, f0, f2, f3, f8, f12, ho3, y1, t ++ w.toList.drop 1, f1', by rw [hr']; exact hyv0, htd3, ?_⟩
                    · have : k ≠ 0 := fun h => by subst h; simp at hr
                      omega
                    · rw [hr', hscan, hsc, if_pos hkw]
                  · simp
                    refine ⟨hkp3, hct3, hds, hgl, f8, ?_, f9, hld⟩
                    rw [hscan, hsc, hkw]
                    rfl
                case iloop =>
                  refine Does.block (Does.inv (fun k2 fr3 st3 => Keep st st3 ∧ st.ctr + 2 ≤ st3.ctr ∧ fr3.ds = [] ∧ fr3.gl = gl ∧ k2 ≤ u.n ∧ Fr.at fr3 0 = .str kn ∧ Fr.at fr3 1 = y1 ∧ Fr.at fr3 2 = .int .i64 least ∧ Fr.at fr3 3 = .int .i64 most ∧ Fr.at fr3 8 = .ptr st.ctr 0 ∧ Fr.at fr3 12 = .ptr (st.ctr + 1) 0 ∧
                    Fr.at fr3 13 = .str u ∧ Fr.at fr3 67 = .int .i64 ((u.n : Nat) : Int) ∧ Fr.at fr3 68 = .int .i64 ((u.n - k2 : Nat) : Int) ∧ st3.box.get st.ctr = some (.cells [.str ⟨0, 0⟩, .nils] 26 true (some 0)) ∧ InnerAt (st.ctr + 1) st3 kn u t (u.n - k2)) u.n ?iinit ?istep)
                  case iinit => exact ⟨hkp, hct, by simp [hds], by simp [hgl], Nat.le_refl _, by simp [f0], by simp, by simp [f2], by simp [f3], by simp [f8], by simp [f12], by simp, by simp, by simp, ho, [], by simp, rfl, by simpa using htd⟩
                  case istep =>
                    rintro k2 fr3 st3 ⟨hkp3, hct3, hds, hgl, hk2, f0, f1', f2, f3, f8, f12, f13, f67, f68, ho3, pre, hpre, hall, htd3⟩
                    refine Does.seq (Does.region ?_)
                    simp [f67, f68, vbin_lss]
                    refine Does.seq (Does.cond (c := decide (u.n - k2 < u.n)) (by simp) (fun hc2 => ?_) (fun hc2 => ?_))
                    · have hc2 : u.n - k2 < u.n := of_decide_eq_true hc2
                      have hix := vindex_str (k := .i64) Try.underlying9 (s := u) hc2
                      have hat := S.at_lt u (u.n - k2)
                      have hdr := S.drop_at u hc2
                      have hca := ihCall_W (strings_index gl st3 kn (u.at (u.n - k2)))
                      have him := index_mem kn.toList (u.at (u.n - k2)).toUInt8
                      generalize hbb : u.at (u.n - k2) = b at hix hat hdr hca him
                      refine Does.skip ?_
                      simp
                      refine Does.seq (Does.block (Does.seq (Does.region ?_)))
                      simp [f68]
                      refine Does.seq (Does.seq (Does.region ?_))
                      simp [f0, f13, hgl, hix, vcall_callable hk15, hca, vbin_lss]
                      by_cases hmem : UInt8.ofNat b ∈ kn.toList
                      · have hge : ¬ Lib.indexByte kn.toList (UInt8.ofNat b) < 0 := fun h => him.1 h hmem
                        refine Does.condF (by simp [hge]) ?_
                        refine Does.skip ?_
                        simp
                        refine Does.region ?_
                        obtain ⟨st4, a1, a2, a3, a4⟩ := htd3.add hat
                        have ha := addr_38 (st.ctr + 1) b hat
                        have w68 : IntKind.i64.wrap (((u.n - k2 : Nat) : Int) + 1) = ((u.n - k2 : Nat) : Int) + 1 := wrap_i64 (by omega) (by omega)
                        have hkp4 : Keep st st4 := ⟨by rw [a3]; exact hkp3.ctr, fun i hi => by rw [a4 i (by omega)]; exact hkp3.box i hi⟩
                        have ho4 : st4.box.get st.ctr = some (.cells [.str ⟨0, 0⟩, .nils] 26 true (some 0)) := by rw [a4 st.ctr (by omega)]; exact ho3
                        simp [f12, f13, hix, ha, vact, a1]
                        refine Does.region ?_
                        simp [f68, vbin_add, w68]
                        refine ⟨k2 - 1, by omega, hkp4, by rw [a3]; exact hct3, hds, hgl, by omega, f0, f1', f2, f3, f8, f12, f13, f67, by omega, ho4, pre ++ [UInt8.ofNat b], ?_, ?_, ?_⟩
                        · rw [show u.n - (k2 - 1) = u.n - k2 + 1 by omega, List.append_assoc]
                          rw [hdr] at hpre
                          exact hpre
                        · rw [List.all_append, hall]; simp [hmem]
                        · rw [← List.append_assoc]; exact a2
                      · have hlt : Lib.indexByte kn.toList (UInt8.ofNat b) < 0 := him.2 hmem
                        refine Does.condT (by simp [hlt]) ?_
                        refine Does.seq (Does.region ?_)
                        obtain ⟨q1, q2⟩ := store_two (c := .str ⟨0, 0⟩) (d := .nils) rfl rfl ho3
                        simp [evParts, hbu, vact, f8, q1]
                        refine Does.ret ?_
                        simp
                        refine ⟨hkp3.put (Nat.le_refl _) _, hct3, hds, hgl, f8, ?_, q2⟩
                        simp only [known, ← hcl]
                        rw [← hpre, hdr, List.all_append, List.all_cons, decide_eq_false hmem]
                        simp
                    · have hc2 : ¬ u.n - k2 < u.n := of_decide_eq_false hc2
                      have he : u.n - k2 = u.n := by omega
                      refine Does.exit ?_
                      simp
                      rw [he, List.drop_of_length_le (by rw [S.len]; exact Nat.le_refl _), List.append_nil] at hpre
                      refine ⟨hkp3, hct3, hds, hgl, f8, ?_, ho3, f0, f2, f3, f12, f1', ?_⟩
                      · simp only [known, ← hcl]; rw [← hpre]; exact hall
                      · rw [hpre, hcl] at htd3
                        simpa using htd3

end Go.Vm
