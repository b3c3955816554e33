/- The law OptsCut returns true, by the evaluator's equations, whatever known letters, words and numbers it is handed. -/
import Derived.Test.YtajfpccgknoafaaOptC
namespace Go.Vm
open Go Go.Proofs
attribute [local simp] Oks xOps vwanted isDefer vop kindOf vpure ev evs toV andThen inBlock atTo_some Fr.dsTo Fr.glTo Fr.toNone initFr_at initFr_ds initFr_gl veff traverse tupled vresult V.undef
attribute [local instance] Memo.none

theorem conv_int (st : St) (b : Nat) (hb : b < 256) : vconv Try.prog st 5 3 (.int .u8 (b : Int)) = some (.int .i64 (b : Int)) := by
  have h : vconv Try.prog st 5 3 (.int .u8 (b : Int)) = viaSem Try.prog (fun l => convert 5 3 (l.getD 0 undef)) [.int .u8 (b : Int)] := by
    simp only [vconv, Try.underlying3, Try.underlying5]
  rw [h]
  have hw : IntKind.i64.wrap (b : Int) = (b : Int) := wrap_i64 (by omega) (by omega)
  have h2 : unSem Try.prog (convert 5 3 (Value.int IntKind.u8 (b : Int))) = some (.int .i64 (IntKind.i64.wrap (b : Int))) := by
    rfl
  simp only [viaSem, traverse, ofV]
  show (match unSem Try.prog (convert 5 3 (Value.int IntKind.u8 (b : Int))) with
    | some v => toV 6 v
    | none => none) = _
  rw [h2, hw]
  rfl

theorem bool_neq (kk a : Bool) : vbin Try.prog kk .neq 4 (.bool a) (.bool a) = some (.bool false) := by
  cases kk <;> cases a <;> kernel_rfl

/-- all but one block stays -/
structure Stay (x : Nat) (st st' : St) : Prop where
  ctr : st.ctr ≤ st'.ctr
  box : ∀ j, j < st.ctr → j ≠ x → st'.box.get j = st.box.get j

theorem Stay.refl (x : Nat) (st : St) : Stay x st st := ⟨Nat.le_refl _, fun _ _ _ => rfl⟩
theorem Stay.put {x : Nat} {st st' : St} (h : Stay x st st') (b : Bx) : Stay x st { st' with box := st'.box.put x b } := ⟨h.ctr, fun j h1 h2 => by rw [Tr.get_put, if_neg h2]; exact h.box j h1 h2⟩
theorem Stay.keep {x : Nat} {st st' st'' : St} (h : Stay x st st') (k : Keep st' st'') : Stay x st st'' := ⟨Nat.le_trans h.ctr k.ctr, fun j h1 h2 => by rw [k.box j (Nat.lt_of_lt_of_le h1 h.ctr)]; exact h.box j h1 h2⟩

theorem Vw.stay {x : Nat} {st1 st st' : St} (h1 : Keep st1 st) (h2 : Stay x st st') {v : V} {l : List S} (hv : Vw st1 v l) (hx : st1.ctr ≤ x ∨ ∃ id n cap, v = .ms id 0 n 1 cap ∧ id ≠ x ∨ v = .nils) : Vw st' v l := by
  cases hv with
  | nils => exact .nils
  | sl l ex => exact .sl l ex
  | ms id off cap cs e fl fz l hb hl hlt hid hcap =>
    have hne : id ≠ x := by
      rcases hx with h | ⟨id', n, cap', ⟨h, hn⟩ | h⟩
      · omega
      · cases h; exact hn
      · cases h
    have h3 := h1.ctr
    exact .ms id off cap cs e fl fz l (by rw [h2.box id (by omega) hne, h1.box id hid]; exact hb) hl hlt (by have := h2.ctr; omega) hcap

def InBox (st : St) (id n : Nat) : Prop := ∃ cs fl, st.box.get id = some (.cells cs 9 fl (some 0)) ∧ cs.length = n
def IsB (fr : Fr) (p : Prop) : Prop := ∃ b, Fr.at fr 17 = .bool b ∧ (b = true ↔ p)

theorem load_two {st : St} {id : Nat} {a b : V} (hb : st.box.get id = some (.cells [a, b] 26 true (some 0))) : vload Try.prog st 26 (.ptr id 0) = some (.agg [a, b]) := by
  have hs : sizeT Try.prog 26 = some 2 := by kernel_rfl
  have ha : isAggT Try.prog 26 = some true := by kernel_rfl
  simp only [vload, hb, vpart, ha, hs]
  rfl

theorem scan_len (kn : S) : ∀ (l : List S) (t : List UInt8) (p : List UInt8 × List S), scan kn l t = some p → p.2.length ≤ l.length
  | [], t, p, h => by simp only [scan, Option.some.injEq] at h; subst h; exact Nat.le_refl _
  | w :: r, t, p, h => by
    simp only [scan] at h
    split at h
    · split at h
      · simp only [Option.some.injEq] at h; subst h; simp
      · split at h
        · have := scan_len kn r _ p h; simp; omega
        · cases h
    · simp only [Option.some.injEq] at h; subst h; exact Nat.le_refl _

theorem setFrom_len (t : List UInt8) : ∀ (n c : Nat), (setFrom t c n).length ≤ n
  | 0, c => Nat.le_refl _
  | n + 1, c => by
    have := setFrom_len t n (c + 1)
    rw [setFrom_step, List.length_append]
    split <;> simp <;> omega

theorem parseS_len (kn : S) (l : List S) (least most : Int) : (parseS kn l least most).1.length ≤ 256 ∧ (parseS kn l least most).2.1.length ≤ l.length := by
  unfold parseS
  split
  · simp
  · split
    · simp
    · rename_i t r hs
      split
      · simp
      · exact ⟨setFrom_len t 256 0, scan_len kn l [] (t, r) hs⟩

theorem cut_ok (gl : Gl) (kn : S) (x : V) (l : List S) (least most : Int) (hx : Vw ⟨0, .nil⟩ x l) (hl : l.length ≤ 9223372036854775807) :
    ∃ v st', W Try.prog (.call gl 5 [.str kn, x, .int .i64 least, .int .i64 most]) ⟨0, .nil⟩ = .call (.val v st') ∧ v = .bool true := by
  have hkl := vlen_str Try.underlying9 (s := kn)
  have hk7 : callable Try.prog 7 = true := by kernel_rfl
  have hk8 : callable Try.prog 8 = true := by kernel_rfl
  have hk9 : callable Try.prog 9 = true := by kernel_rfl
  have hk10 : callable Try.prog 10 = true := by kernel_rfl
  have hk13 : callable Try.prog 13 = true := by kernel_rfl
  obtain ⟨big, hbig, hsmall⟩ := large_ok gl ⟨0, .nil⟩ x l hx hl
  have hbig := ihCall_W hbig
  refine call_ex rfl Try.func5 rfl (by kernel_rfl) ?_
  refine Does.seq (Does.region ?_)
  simp
  refine Does.seq (Does.seq (Does.region ?_))
  have hgt : decide ((kn.n : Int) > 1000) = decide (1000 < kn.n) := by simp only [gt_iff_lt]; congr 1; simp; omega
  cases hkn : decide (1000 < kn.n)
  rotate_left
  · rw [hkn] at hgt
    simp only [gt_iff_lt] at hgt
    simp [hkl, vbin_gtr, hgt]
    refine Does.condT (by simp) ?_
    refine Does.seq (Does.region ?_)
    simp
    refine Does.ret ?_
    simp
  · have hkn' : kn.n ≤ 1000 := by have := of_decide_eq_false hkn; omega
    rw [hkn] at hgt
    simp only [gt_iff_lt] at hgt
    simp [hkl, vbin_gtr, hgt, vcall_callable hk7, hbig]
    cases big with
    | true =>
      refine Does.condT (by simp) ?_
      refine Does.seq (Does.region ?_)
      simp
      refine Does.ret ?_
      simp
    | false =>
      obtain ⟨hl5, hw5⟩ := hsmall rfl
      refine Does.condF (by simp) ?_
      refine Does.skip ?_
      simp
      -- the document's answer
      obtain ⟨v1, st1, hc1, hk1, s, y, rfl, hs, hy, hyo⟩ := ref_ok gl ⟨0, .nil⟩ kn x l least most hx hl5 hw5 hkn'
      have hc1 := ihCall_W hc1
      refine Does.seq (Does.region ?_)
      simp [vcall_callable hk13, hc1]
      -- the words in new memory
      refine Does.seq (Does.region ?_)
      have hbs : vbuildSlice Try.prog 22 0 [] = some ([], 9, 1) := by kernel_rfl
      have hu : Try.prog.underlying 22 = some (.slice 9) := u22
      let st2 : St := { ctr := st1.ctr + 1, box := st1.box.put st1.ctr (.cells [] 9 true (some 0)) }
      have hk12 : Keep st1 st2 := (Keep.refl st1).new _
      obtain ⟨z, st3, ha, hk23, hz, hzz⟩ := Vw.copy u22 i9 rfl zv9 rfl ((hx.keep hk1).keep hk12) (by show l.length * 16 ≤ maxBytes; simp [maxBytes]; omega) (by simp [maxBytes]; omega) (id := st1.ctr) (e0 := 9) (fl := true) (by show st1.ctr < st1.ctr + 1; omega) (by simp [st2, Tr.get_put])
      have hin : ∃ id cap cs fl, z = .ms id 0 l.length 1 cap ∧ st1.ctr ≤ id ∧ id < st3.ctr ∧ st3.box.get id = some (.cells cs 9 fl (some 0)) ∧ cs.length = l.length := by
        rcases hzz with ⟨rfl, rfl, rfl⟩ | ⟨_, rfl, rfl⟩
        · exact ⟨st1.ctr, some 0, [], true, rfl, Nat.le_refl _, by show st1.ctr < st1.ctr + 1; omega, by simp [st2, Tr.get_put], rfl⟩
        · exact ⟨st2.ctr, none, l.map .str, false, rfl, Nat.le_succ _, by show st2.ctr < st2.ctr + 1; omega, by simp [Tr.get_put], by simp⟩
      obtain ⟨idi, capi, csi, fli, rfl, hi1, hi2, hi3, hi4⟩ := hin
      simp only [st2] at ha
      simp [valloc, mkRef, evParts, hbs, vact, hu, ha]
      -- the program's answer
      obtain ⟨v4, st4, hc4, hk4, s', y', rfl, hs', hy', hyy⟩ := parse_ok gl st3 kn (.ms idi 0 l.length 1 capi) l least most hz (fun h => by cases h) hl5 hw5 hkn'
      have hc4 := ihCall_W hc4
      have hyo' : oneC y' = true := by rcases hyy with rfl | ⟨_, _, _, rfl, _⟩ <;> rfl
      have hz26 : zeroT Try.prog 26 = some (.agg [.str ⟨0, 0⟩, .nils]) := by kernel_rfl
      have hos : oneC (.str ⟨0, 0⟩) = true := rfl
      have hon : oneC .nils = true := rfl
      have hc26 : (V.agg [.str ⟨0, 0⟩, .nils]).cells = [.str ⟨0, 0⟩, .nils] := rfl
      let st5 : St := { ctr := st4.ctr + 1, box := st4.box.put st4.ctr (.cells [.str ⟨0, 0⟩, .nils] 26 true (some 0)) }
      obtain ⟨q1, _⟩ := store_two (st := st5) (id := st4.ctr) (a := .str ⟨0, 0⟩) (b := .nils) (c := .str s') (d := y') (by rfl) hyo' (by simp [st5, Tr.get_put])
      refine Does.seq (Does.region ?_)
      simp only [st5] at q1
      simp [vcall_callable hk8, hc4, valloc, hz26, hc26, hos, hon, mkRef, vact, q1]
      let st6 : St := { ctr := st4.ctr + 1, box := (st4.box.put st4.ctr (.cells [.str ⟨0, 0⟩, .nils] 26 true (some 0))).put st4.ctr (.cells [.str s', y'] 26 true (some 0)) }
      have hk46 : Keep st4 st6 := ((Keep.refl st4).new _).put (Nat.le_refl _) _
      have h13 : st6.box.get st4.ctr = some (.cells [.str s', y'] 26 true (some 0)) := by simp [st6, Tr.get_put]
      have hc6 : st6.ctr = st4.ctr + 1 := rfl
      have hi34 : st3.ctr ≤ st4.ctr := hk4.ctr
      have hi6 : st6.box.get idi = some (.cells csi 9 fli (some 0)) := by rw [hk46.box idi (by omega), hk4.box idi hi2]; exact hi3
      have hk16 : Keep st1 st6 := ((hk12.trans hk23).trans hk4).trans hk46
      have hn13 : st4.ctr ≠ idi := by omega
      -- what was handed in is written over
      refine Does.seq (Does.mono (Q := fun e fr' st' => e = AE.normal ∧ Stay idi st6 st' ∧ fr'.ds = [] ∧ fr'.gl = gl ∧ Fr.at fr' 9 = .str s ∧ Fr.at fr' 10 = y ∧ Fr.at fr' 11 = .int .i64 ((parseS kn l least most).2.2 : Int) ∧ Fr.at fr' 13 = .ptr st4.ctr 0 ∧ Fr.at fr' 14 = .int .i64 ((parseS kn l least most).2.2 : Int)) ?loop1 ?tail1)
      case loop1 =>
        refine Does.seq (Does.region ?_)
        simp
        refine Does.block (Does.inv (fun k fr st' => Stay idi st6 st' ∧ fr.ds = [] ∧ fr.gl = gl ∧ k ≤ l.length ∧ Fr.at fr 9 = .str s ∧ Fr.at fr 10 = y ∧ Fr.at fr 11 = .int .i64 ((parseS kn l least most).2.2 : Int) ∧ Fr.at fr 12 = .ms idi 0 l.length 1 capi ∧ Fr.at fr 13 = .ptr st4.ctr 0 ∧
          Fr.at fr 14 = .int .i64 ((parseS kn l least most).2.2 : Int) ∧ Fr.at fr 15 = .int .i64 ((l.length - k : Nat) : Int) ∧ InBox st' idi l.length) l.length ?init ?step)
        case init => exact ⟨.refl _ _, by simp, by simp, Nat.le_refl _, by simp, by simp, by simp, by simp, by simp, by simp, by simp, csi, fli, hi6, hi4⟩
        case step =>
          rintro k fr st' ⟨hst, hds, hgl, hk, f9, f10, f11, f12, f13, f14, f15, cs, fl, hb, hcl⟩
          have hln : vlen Try.prog 22 (.ms idi 0 l.length 1 capi) = some (.int .i64 ((l.length : Nat) : Int)) := by simp only [vlen, hu]
          refine Does.seq (Does.seq (Does.region ?_))
          simp [f12, f15, hln, vbin_lss]
          refine Does.cond (c := decide (l.length - k < l.length)) (by simp) (fun hc => ?_) (fun hc => ?_)
          · have hc : l.length - k < l.length := of_decide_eq_true hc
            have had := vindexAddr_ms (P := Try.prog) (off := 0) (z := 1) (cap := capi) (k := .i64) (id := idi) hu z9 hc
            simp only [Nat.zero_add, Nat.mul_one] at had
            have hso := vstore_one (P := Try.prog) (off := l.length - k) (v := .str (S.ofList [63])) z9 hb (by omega) rfl
            have w15 : IntKind.i64.wrap (((l.length - k : Nat) : Int) + 1) = ((l.length - k : Nat) : Int) + 1 := wrap_i64 (by omega) (by omega)
            refine Does.skip ?_
            simp
            refine Does.seq (Does.block (Does.region ?_))
            simp [f12, f15, had, vact, hso]
            refine Does.region ?_
            simp [f15, vbin_add, w15]
            exact ⟨k - 1, by omega, hst.put _, hds, hgl, by omega, f9, f10, f11, f12, f13, f14, by omega, cs.set (l.length - k) (.str (S.ofList [63])), fl, by simp [Tr.get_put], by simpa using hcl⟩
          · refine Does.exit ?_
            simp
            exact ⟨hst, hds, hgl, f9, f10, f11, f13, f14⟩
      case tail1 =>
        rintro e fr st7 ⟨rfl, hst, hds, hgl, f9, f10, f11, f13, f14⟩
        have h13' : st7.box.get st4.ctr = some (.cells [.str s', y'] 26 true (some 0)) := by rw [hst.box st4.ctr (by omega) hn13]; exact h13
        have hyv : Vw st7 y (parseS kn l least most).2.1 := Vw.stay hk16 hst hy (.inl hi1)
        have hyv' : Vw st7 y' (parseS kn l least most).2.1 := by
          refine Vw.stay hk46 hst hy' (.inr ?_)
          rcases hyy with rfl | ⟨id', n', cap', rfl, h⟩
          · exact ⟨0, 0, none, .inr rfl⟩
          · exact ⟨id', n', cap', .inl ⟨rfl, by omega⟩⟩
        have hf0 : vfieldAddr Try.prog 26 (.ptr st4.ctr 0) 0 = some (.ptr st4.ctr 0) := by
          have h1 := Try.underlying26
          simp only [vfieldAddr, h1]
          rfl
        have hf1 : vfieldAddr Try.prog 26 (.ptr st4.ctr 0) 1 = some (.ptr st4.ctr 1) := by
          have h1 := Try.underlying26
          simp only [vfieldAddr, h1]
          rfl
        have hl0 := vload_of (P := Try.prog) (off := 0) a9 z9 h13' rfl
        have a22 : isAggT Try.prog 22 = some false := by kernel_rfl
        have z22 : sizeT Try.prog 22 = some 1 := by kernel_rfl
        have hl1 := vload_of (P := Try.prog) (off := 1) a22 z22 h13' rfl
        have hsame : s'.same s = true := by rw [S.same_eq, hs', hs]; simp
        have hpl : (parseS kn l least most).2.1.length < 4611686018427387904 := by have := (parseS_len kn l least most).2; omega
        obtain ⟨v8, st8, hc8, rfl, hk8'⟩ := same_ok gl st7 y' y _ _ hyv' hyv hpl rfl
        have hc8 := ihCall_W hc8
        simp
        refine Does.seq (Does.seq (Does.region ?_))
        simp [f9, f10, f11, f13, f14, hgl, vbin_neq, hf0, hf1, hl0, hl1, vbin_sneq, hsame, vcall_callable hk9, hc8]
        refine Does.condF (by simp) ?_
        refine Does.skip ?_
        simp
        have hsn : s.n ≤ 256 := by rw [← S.len, hs]; exact (parseS_len kn l least most).1
        have hss : s'.toList = s.toList := by rw [hs', hs]
        have h138 : st8.box.get st4.ctr = some (.cells [.str s', y'] 26 true (some 0)) := by
          rw [hk8'.box st4.ctr (by have := hst.ctr; omega)]; exact h13'
        have hc48 : st4.ctr < st8.ctr := by have := hst.ctr; have := hk8'.ctr; omega
        refine Does.seq (Does.mono (Q := fun e fr' st' => e = AE.normal ∧ fr'.ds = []) ?loop2 ?tail2)
        case tail2 =>
          rintro e fr' st' ⟨rfl, hds⟩
          simp
          refine Does.seq (Does.region ?_)
          simp
          refine Does.ret ?_
          simp [hds]
        case loop2 =>
          refine Does.seq (Does.region ?_)
          simp
          refine Does.block (Does.inv (fun k fr st' => Keep st8 st' ∧ fr.ds = [] ∧ fr.gl = gl ∧ k ≤ 256 ∧ Fr.at fr 9 = .str s ∧ Fr.at fr 13 = .ptr st4.ctr 0 ∧ Fr.at fr 16 = .int .i64 ((256 - k : Nat) : Int)) 256 ?init2 ?step2)
          case init2 => exact ⟨.refl _, by simp [hds], by simp [hgl], Nat.le_refl _, by simp [f9], by simp [f13], by simp⟩
          case step2 =>
            rintro k fr st' ⟨hkp, hds, hgl, hk, f9, f13, f16⟩
            refine Does.seq (Does.seq (Does.region ?_))
            have h256 : decide (((256 - k : Nat) : Int) < 256) = decide (256 - k < 256) := by congr 1; simp; omega
            simp [f16, vbin_lss]
            refine Does.cond (c := decide (256 - k < 256)) (by rw [← h256]; simp) (fun hc => ?_) (fun hc => ?_)
            · have hc : 256 - k < 256 := of_decide_eq_true hc
              have w16 : IntKind.i64.wrap (((256 - k : Nat) : Int) + 1) = ((256 - k : Nat) : Int) + 1 := wrap_i64 (by omega) (by omega)
              refine Does.skip ?_
              simp
              refine Does.seq (Does.block (Does.seq (Does.region ?_)))
              simp
              refine Does.seq (Does.mono (Q := fun e fr2 st2 => e = AE.normal ∧ st2 = st' ∧ fr2.ds = [] ∧ fr2.gl = gl ∧ Fr.at fr2 9 = .str s ∧ Fr.at fr2 13 = .ptr st4.ctr 0 ∧ Fr.at fr2 16 = .int .i64 ((256 - k : Nat) : Int) ∧ IsB fr2 (UInt8.ofNat (256 - k) ∈ s.toList)) ?loop3 ?tail3)
              case tail3 =>
                rintro e fr2 st2 ⟨rfl, rfl, hds, hgl, f9, f13, f16, b, f17, hb⟩
                simp
                have hld := load_two (st := st2) (by rw [hkp.box st4.ctr hc48]; exact h138)
                have hcb := conv_byte st2 (256 - k) hc
                obtain ⟨v9, st9, hc9, rfl, hk9'⟩ := opts_has_ok gl st2 s' y' hyo' (256 - k)
                have hc9 := ihCall_W hc9
                have hkr : kindOf Try.prog (.convert 3 5 (.tmp 91)) = .r := by kernel_rfl
                simp only [kindOf] at hkr
                have hbb : b = decide (UInt8.ofNat (256 - k) ∈ s'.toList) := by
                  rw [hss]
                  cases b with
                  | true => exact (decide_eq_true (hb.1 rfl)).symm
                  | false => exact (decide_eq_false fun h => by have := hb.2 h; cases this).symm
                have hne : ∀ kk, vbin Try.prog kk .neq 4 (.bool (decide (UInt8.ofNat (256 - k) ∈ s'.toList))) (.bool b) = some (.bool false) := fun kk => by rw [hbb]; exact bool_neq kk _
                refine Does.seq (Does.region ?_)
                simp [f13, f16, f17, hgl, hld, hkr, hcb, vcall_callable hk10, hc9, hne]
                refine Does.condF (by simp) ?_
                refine Does.skip ?_
                simp
                refine Does.region ?_
                simp [f16, vbin_add, w16]
                exact ⟨k - 1, by omega, hkp.trans hk9', hds, hgl, by omega, f9, f13, by omega⟩
              case loop3 =>
                refine Does.seq (Does.region ?_)
                simp
                refine Does.block (Does.inv (fun k2 fr2 st2 => st2 = st' ∧ fr2.ds = [] ∧ fr2.gl = gl ∧ k2 ≤ s.n ∧ Fr.at fr2 9 = .str s ∧ Fr.at fr2 13 = .ptr st4.ctr 0 ∧ Fr.at fr2 16 = .int .i64 ((256 - k : Nat) : Int) ∧ Fr.at fr2 18 = .int .i64 ((s.n - k2 : Nat) : Int) ∧
                  IsB fr2 (UInt8.ofNat (256 - k) ∈ s.toList.take (s.n - k2))) s.n ?init3 ?step3)
                case init3 => exact ⟨rfl, by simp [hds], by simp [hgl], Nat.le_refl _, by simp [f9], by simp [f13], by simp [f16], by simp, false, by simp, by simp⟩
                case step3 =>
                  rintro k2 fr2 st2 ⟨rfl, hds, hgl, hk2, f9, f13, f16, f18, hbb⟩
                  have hsl := vlen_str Try.underlying9 (s := s)
                  refine Does.seq (Does.seq (Does.region ?_))
                  simp [f9, f18, hsl, vbin_lss]
                  refine Does.cond (c := decide (s.n - k2 < s.n)) (by simp) (fun hc2 => ?_) (fun hc2 => ?_)
                  · have hc2 : s.n - k2 < s.n := of_decide_eq_true hc2
                    have o1 : k2 - 1 < k2 := by clear hbb; omega
                    have o2 : k2 - 1 ≤ s.n := by clear hbb; omega
                    have o3 : ((s.n - k2 : Nat) : Int) + 1 = ((s.n - (k2 - 1) : Nat) : Int) := by clear hbb; omega
                    have o4 : s.n - (k2 - 1) = s.n - k2 + 1 := by clear hbb; omega
                    have w18 : IntKind.i64.wrap (((s.n - k2 : Nat) : Int) + 1) = ((s.n - k2 : Nat) : Int) + 1 := wrap_i64 (by clear hbb; omega) (by clear hbb; omega)
                    have hix := vindex_str (k := .i64) Try.underlying9 (s := s) hc2
                    have hat := S.at_lt s (s.n - k2)
                    have hci := conv_int st2 (s.at (s.n - k2)) hat
                    have hkr : kindOf Try.prog (.convert 5 3 (.tmp 85)) = .r := by kernel_rfl
                    simp only [kindOf] at hkr
                    have htk : s.toList.take (s.n - k2 + 1) = s.toList.take (s.n - k2) ++ [UInt8.ofNat (s.at (s.n - k2))] := by
                      rw [List.take_add_one, S.toList_at s hc2]; rfl
                    obtain ⟨b, f17, hb⟩ := hbb
                    have key : ∀ b', (b' = true ↔ (b = true ∨ s.at (s.n - k2) = 256 - k)) → (b' = true ↔ UInt8.ofNat (256 - k) ∈ s.toList.take (s.n - (k2 - 1))) := by
                      intro b' h
                      rw [h, hb, o4, htk, List.mem_append, List.mem_singleton, byte_eq hc hat]
                      constructor
                      · rintro (h | h)
                        · exact .inl h
                        · exact .inr h.symm
                      · rintro (h | h)
                        · exact .inl h
                        · exact .inr h.symm
                    refine Does.skip ?_
                    simp
                    refine Does.seq (Does.block (Does.region ?_))
                    cases b with
                    | true =>
                      simp [f17]
                      refine Does.region ?_
                      simp [f18, vbin_add, w18]
                      exact ⟨k2 - 1, o1, hds, hgl, o2, f9, f13, f16, o3, true, by simp, key true (by simp)⟩
                    | false =>
                      simp [f9, f16, f17, f18, hix, hkr, hci, vbin_eql]
                      refine Does.region ?_
                      simp [f18, vbin_add, w18]
                      exact ⟨k2 - 1, o1, hds, hgl, o2, f9, f13, f16, o3, decide (((s.at (s.n - k2) : Nat) : Int) = ((256 - k : Nat) : Int)), by simp, key _ (by simp; omega)⟩
                  · have hc2 : ¬ s.n - k2 < s.n := of_decide_eq_false hc2
                    have he : s.n - k2 = s.n := by clear hbb; omega
                    refine Does.exit ?_
                    simp
                    rw [he, List.take_of_length_le (by rw [S.len]; exact Nat.le_refl _)] at hbb
                    obtain ⟨b, f17, hb⟩ := hbb
                    exact ⟨hds, hgl, f9, f13, f16, b, by simp [f17], hb⟩
            · refine Does.exit ?_
              simp
              exact hds

end Go.Vm
