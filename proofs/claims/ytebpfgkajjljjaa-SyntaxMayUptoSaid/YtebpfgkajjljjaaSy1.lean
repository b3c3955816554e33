/- Is one of the bytes among the special ones: strings.ContainsAny. Is one of the bytes among the special ones: strings.IndexAny, ContainsAny; plain bytes. Parts of words, however they lie; whether two words are the same. Words that may be, by the program and by the document: plain. Words: the same; those that may be, by the program. -/
import Derived.Test.YtebpfgkajjljjaaSy0
namespace Go.Vm
open Go Go.Proofs Go.Sy
attribute [local simp] Oks xOps vwanted isDefer vop kindOf vpure ev evs toV andThen inBlock atTo_some Fr.dsTo Fr.glTo Fr.toNone initFr_at initFr_ds initFr_gl veff traverse tupled vresult V.undef evOpt xDraw xStep

theorem get_at (s : S) {i : Nat} (h : i < s.n) : ((⟨⟨s.toList⟩⟩ : ByteArray).get! i).toNat = s.at i := by
  have h1 := s.toList_at h
  have h2 : i < s.toList.length := by rw [S.len]; exact h
  rw [List.getElem?_eq_getElem h2] at h1
  have h3 := Option.some.inj h1
  have h4 : (⟨⟨s.toList⟩⟩ : ByteArray).get! i = s.toList[i] := by
    show (⟨s.toList⟩ : Array UInt8)[i]! = _
    simp [List.getElem?_eq_getElem h2]
  rw [h4, h3]
  have := s.at_lt i
  simp; omega

/-- a rune: of one byte, that byte; else of bytes that are no ASCII, and no ASCII itself -/
theorem decode_facts (s : S) {i : Nat} (h : i < s.n) : (s.at i < 128 → Utf8.decode ⟨⟨s.toList⟩⟩ i = (s.at i, 1)) ∧ (128 ≤ s.at i → 128 ≤ (Utf8.decode ⟨⟨s.toList⟩⟩ i).1 ∧
    ((Utf8.decode ⟨⟨s.toList⟩⟩ i).1 = 65533 ∨ Utf8.valid ((Utf8.decode ⟨⟨s.toList⟩⟩ i).1 : Int) = true) ∧ 1 ≤ (Utf8.decode ⟨⟨s.toList⟩⟩ i).2 ∧ i + (Utf8.decode ⟨⟨s.toList⟩⟩ i).2 ≤ s.n ∧
    ∀ j, i ≤ j → j < i + (Utf8.decode ⟨⟨s.toList⟩⟩ i).2 → 128 ≤ s.at j) := by
  have hsz : (⟨⟨s.toList⟩⟩ : ByteArray).size = s.n := s.len
  have g0 := get_at s h
  have gk : ∀ k, i + k < s.n → ((⟨⟨s.toList⟩⟩ : ByteArray).get! (i + k)).toNat = s.at (i + k) := fun k hk => get_at s hk
  unfold Utf8.decode
  simp only [Nat.add_zero, g0, hsz]
  by_cases h0 : s.at i < 128
  · rw [if_pos h0]
    exact ⟨fun _ => rfl, fun h => by omega⟩
  · rw [if_neg h0]
    refine ⟨fun h => by omega, fun _ => ?_⟩
    have one : 128 ≤ (Utf8.runeError, 1).1 ∧ ((Utf8.runeError, 1).1 = 65533 ∨ Utf8.valid (((Utf8.runeError, 1).1 : Nat) : Int) = true) ∧ 1 ≤ (Utf8.runeError, 1).2 ∧ i + (Utf8.runeError, 1).2 ≤ s.n ∧ ∀ j, i ≤ j → j < i + (Utf8.runeError, 1).2 → 128 ≤ s.at j := by
      refine ⟨by decide, .inl rfl, Nat.le_refl _, h, fun j h1 h2 => ?_⟩
      obtain rfl : j = i := by simp at h2; omega
      omega
    have cont : ∀ k, (decide (i + k < s.n) && ((⟨⟨s.toList⟩⟩ : ByteArray).get! (i + k)).toNat / 64 == 2) = true → i + k < s.n ∧ 128 ≤ s.at (i + k) := fun k hk => by
      simp only [Bool.and_eq_true, decide_eq_true_eq, beq_iff_eq] at hk
      rw [gk k hk.1] at hk
      exact ⟨hk.1, by omega⟩
    have hv : ∀ c : Nat, 128 ≤ c → c < 2048 → Utf8.valid (c : Int) = true := fun c h1 h2 => by
      simp only [Utf8.valid, Bool.or_eq_true, Bool.and_eq_true, decide_eq_true_eq]
      left; omega
    split
    · rename_i hc
      simp only [Bool.and_eq_true] at hc
      obtain ⟨c1, c2⟩ := cont 1 (by simpa using hc.2)
      split
      · rename_i hge
        refine ⟨hge, .inr (hv _ hge (by omega)), by show 1 ≤ 2; decide, by show i + 2 ≤ s.n; omega, fun j h1 h2 => ?_⟩
        have : j = i ∨ j = i + 1 := by simp at h2; omega
        rcases this with rfl | rfl <;> omega
      · exact one
    · split
      · rename_i hc
        simp only [Bool.and_eq_true] at hc
        obtain ⟨c1, c2⟩ := cont 1 (by simpa using hc.1.2)
        obtain ⟨c3, c4⟩ := cont 2 (by simpa using hc.2)
        split
        · rename_i hge
          simp only [Bool.and_eq_true, decide_eq_true_eq] at hge
          refine ⟨by have := hge.1; show 128 ≤ _; omega, .inr hge.2, by show 1 ≤ 3; decide, by show i + 3 ≤ s.n; omega, fun j h1 h2 => ?_⟩
          have : j = i ∨ j = i + 1 ∨ j = i + 2 := by simp at h2; omega
          rcases this with rfl | rfl | rfl <;> omega
        · exact one
      · split
        · rename_i hc
          simp only [Bool.and_eq_true] at hc
          obtain ⟨c1, c2⟩ := cont 1 (by simpa using hc.1.1.2)
          obtain ⟨c3, c4⟩ := cont 2 (by simpa using hc.1.2)
          obtain ⟨c5, c6⟩ := cont 3 (by simpa using hc.2)
          split
          · rename_i hge
            simp only [Bool.and_eq_true, decide_eq_true_eq] at hge
            refine ⟨by have := hge.1; show 128 ≤ _; omega, .inr hge.2, by show 1 ≤ 4; decide, by show i + 4 ≤ s.n; omega, fun j h1 h2 => ?_⟩
            have : j = i ∨ j = i + 1 ∨ j = i + 2 ∨ j = i + 3 := by simp at h2; omega
            rcases this with rfl | rfl | rfl | rfl <;> omega
          · exact one
        · exact one

/-- a rune that is no ASCII: of two bytes at least, none ASCII -/
theorem encode_two {c : Nat} (hv : Utf8.valid (c : Int) = true) (h : ¬ c < 0x80) (h2 : c < 0x800) : (Utf8.encode (c : Int)).data.toList = [UInt8.ofNat (0xC0 + c / 64), UInt8.ofNat (0x80 + c % 64)] := by
  unfold Utf8.encode
  simp only [hv, if_true, Int.toNat_natCast, h, h2, if_false]
theorem encode_three {c : Nat} (hv : Utf8.valid (c : Int) = true) (h : ¬ c < 0x80) (h2 : ¬ c < 0x800) (h3 : c < 0x10000) : (Utf8.encode (c : Int)).data.toList = [UInt8.ofNat (0xE0 + c / 4096), UInt8.ofNat (0x80 + c / 64 % 64), UInt8.ofNat (0x80 + c % 64)] := by
  unfold Utf8.encode
  simp only [hv, if_true, Int.toNat_natCast, h, h2, h3, if_false]
theorem encode_four {c : Nat} (hv : Utf8.valid (c : Int) = true) (h : ¬ c < 0x80) (h2 : ¬ c < 0x800) (h3 : ¬ c < 0x10000) : (Utf8.encode (c : Int)).data.toList = [UInt8.ofNat (0xF0 + c / 262144), UInt8.ofNat (0x80 + c / 4096 % 64), UInt8.ofNat (0x80 + c / 64 % 64), UInt8.ofNat (0x80 + c % 64)] := by
  unfold Utf8.encode
  simp only [hv, if_true, Int.toNat_natCast, h, h2, h3, if_false]
theorem byte_hi {n : Nat} (h1 : 128 ≤ n) (h2 : n < 256) : 128 ≤ (UInt8.ofNat n).toNat := by simp; omega

theorem encode_facts {c : Nat} (h : 128 ≤ c) (hv : Utf8.valid (c : Int) = true) : 2 ≤ (Utf8.encode (c : Int)).data.toList.length ∧ (Utf8.encode (c : Int)).data.toList.length ≤ 4 ∧ ∀ b ∈ (Utf8.encode (c : Int)).data.toList, 128 ≤ b.toNat := by
  have hmax : c < 1114112 := by
    simp only [Utf8.valid, Bool.or_eq_true, Bool.and_eq_true, decide_eq_true_eq] at hv
    omega
  have hn : ¬ c < 0x80 := by omega
  by_cases h2 : c < 0x800
  · rw [encode_two hv hn h2]
    refine ⟨by simp, by simp, fun b hb => ?_⟩
    simp only [List.mem_cons, List.not_mem_nil, or_false] at hb
    rcases hb with rfl | rfl <;> exact byte_hi (by omega) (by omega)
  · by_cases h3 : c < 0x10000
    · rw [encode_three hv hn h2 h3]
      refine ⟨by simp, by simp, fun b hb => ?_⟩
      simp only [List.mem_cons, List.not_mem_nil, or_false] at hb
      rcases hb with rfl | rfl | rfl <;> exact byte_hi (by omega) (by omega)
    · rw [encode_four hv hn h2 h3]
      refine ⟨by simp, by simp, fun b hb => ?_⟩
      simp only [List.mem_cons, List.not_mem_nil, or_false] at hb
      rcases hb with rfl | rfl | rfl | rfl <;> exact byte_hi (by omega) (by omega)

theorem vconv_rune {st : St} {c : Int} : vconv Try.prog st 21 9 (.int .i32 c) = some (.str (S.ofList (Utf8.encode c).data.toList)) := by
  have h : vconv Try.prog st 21 9 (.int .i32 c) = viaSem Try.prog (fun l => convert 21 9 (l.getD 0 undef)) [.int .i32 c] := by
    simp only [vconv, Try.underlying21, Try.underlying9]
  rw [h]
  simp only [viaSem, traverse, ofV]
  have h2 : unSem Try.prog (convert 21 9 (.int .i32 c)) = some (.string (Utf8.encode c)) := by
    simp only [convert, unSem_bind_eq, unSem_underlying Try.underlying21, unSem_underlying Try.underlying9, Option.bind_some]
    rfl
  show (match unSem Try.prog (convert 21 9 (.int .i32 c)) with
    | some v => toV 6 v
    | none => none) = _
  rw [h2]
  rfl

theorem vconv_byte {st : St} {c : Nat} (hc : c < 128) : vconv Try.prog st 21 5 (.int .i32 (c : Int)) = some (.int .u8 (c : Int)) := by
  have h : vconv Try.prog st 21 5 (.int .i32 (c : Int)) = viaSem Try.prog (fun l => convert 21 5 (l.getD 0 undef)) [.int .i32 (c : Int)] := by
    simp only [vconv, Try.underlying21, Try.underlying5]
  rw [h]
  simp only [viaSem, traverse, ofV]
  have h2 : unSem Try.prog (convert 21 5 (.int .i32 (c : Int))) = some (.int .u8 (IntKind.u8.wrap (c : Int))) := by
    simp only [convert, unSem_bind_eq, unSem_underlying Try.underlying21, unSem_underlying Try.underlying5, Option.bind_some]
    rfl
  have h3 : IntKind.u8.wrap (c : Int) = (c : Int) := by
    simp [IntKind.wrap, IntKind.bits, IntKind.signed]
    omega
  show (match unSem Try.prog (convert 21 5 (.int .i32 (c : Int))) with
    | some v => toV 6 v
    | none => none) = _
  rw [h2, h3]
  rfl

def specialS : S := S.ofList [32, 9, 10, 39, 34, 92, 36, 59, 38, 124, 60, 62, 40, 41, 42, 63, 91, 96, 0]
theorem specialS_list : specialS.toList = specials := S.toList_ofList _
theorem specials_lt : ∀ b ∈ specials, b.toNat < 128 := by decide

def RuneR (c : Nat) (st : St) (v : V) (st' : St) : Prop := ∃ w : Int, v = .int .i64 w ∧ (0 ≤ w ↔ c < 128 ∧ UInt8.ofNat c ∈ specials) ∧ Keep st st'

variable [Memo] [NY]

theorem valid_ok (gl : Gl) (st : St) (c : Nat) (hv : Utf8.valid (c : Int) = true) : W Try.prog (.call gl 69 [.int .i32 (c : Int)]) st = .call (.val (.bool true) st) := by
  simp only [Utf8.valid, Bool.or_eq_true, Bool.and_eq_true, decide_eq_true_eq] at hv
  refine call_does (NY.no _ rfl rfl _ _) Try.func69 rfl (by kernel_rfl) ?_
  repeat refine Does.seq ?_
  refine Does.region ?_
  simp
  repeat refine Does.seq ?_
  refine Does.block ?_
  repeat refine Does.seq ?_
  refine Does.region ?_
  by_cases h1 : (c : Int) < 55296
  · simp [vbin_leq, vbin_lss, h1]
    repeat refine Does.seq ?_
    refine Does.condT (by simp) ?_
    repeat refine Does.seq ?_
    refine Does.region ?_
    simp
    refine Does.ret ?_
    simp [Try.f69]
  · have h2 : (57343 : Int) < (c : Int) := by omega
    have h3 : (c : Int) ≤ 1114111 := by omega
    simp [vbin_leq, vbin_lss, h1]
    repeat refine Does.seq ?_
    refine Does.condF (by simp) ?_
    repeat refine Does.seq ?_
    refine Does.region ?_
    simp [vbin_leq, vbin_lss, h2, h3]
    repeat refine Does.seq ?_
    refine Does.condT (by simp) ?_
    repeat refine Does.seq ?_
    refine Does.region ?_
    simp
    refine Does.ret ?_
    simp [Try.f69]

theorem indexRune_ok (gl : Gl) (hbad : ∀ st, ihCall (W Try.prog) gl (.f 62) [.str specialS, .int .i32 65533] st = .val (.int .i64 (-1)) st) (st : St) (c : Nat) (hc : c < 128 ∨ c = 65533 ∨ (128 ≤ c ∧ Utf8.valid (c : Int) = true)) (hno : ∀ args st, c ≠ 65533 → args = [V.str specialS, .int .i32 (c : Int)] → (Memo.look 62).run args st = none) :
    ∃ v st', ihCall (W Try.prog) gl (.f 62) [.str specialS, .int .i32 (c : Int)] st = .val v st' ∧ RuneR c st v st' := by
  by_cases hcb : c = 65533
  · subst hcb
    have hcast : (((65533 : Nat)) : Int) = 65533 := by omega
    rw [hcast]
    exact ⟨_, _, hbad st, -1, rfl, ⟨fun h => by omega, fun h => by omega⟩, .refl st⟩
  have hk68 : callable Try.prog 68 = true := by kernel_rfl
  have hk69 : callable Try.prog 69 = true := by kernel_rfl
  have main : ∃ v st', W Try.prog (.call gl 62 [.str specialS, .int .i32 (c : Int)]) st = .call (.val v st') ∧ RuneR c st v st' := by
    refine call_ex (hno _ _ hcb rfl) Try.func62 rfl (by kernel_rfl) ?_
    repeat refine Does.seq ?_
    refine Does.region ?_
    simp
    repeat refine Does.seq ?_
    refine Does.block ?_
    repeat refine Does.seq ?_
    refine Does.region ?_
    have e1 : ∀ kk, vbin Try.prog kk .lss 21 (.int .i32 (c : Int)) (.int .i32 128) = some (.bool (decide (c < 128))) := fun kk => vI_lss rfl
    have e0 : ∀ kk, vbin Try.prog kk .leq 21 (.int .i32 0) (.int .i32 (c : Int)) = some (.bool true) := fun kk => by rw [vbin_leq]; simp
    by_cases h1 : c < 128
    · rw [decide_eq_true h1] at e1
      have hcall := ihCall_W (strIndexByte gl st specialS c)
      have hge := indexByte_ge specialS.toList c.toUInt8
      rw [specialS_list] at hge
      have hcc : c.toUInt8 = UInt8.ofNat c := rfl
      generalize hw : Lib.indexByte specialS.toList c.toUInt8 = w at hcall
      rw [specialS_list] at hw
      rw [hw] at hge
      have hcv := vconv_byte (st := st) h1
      simp [e0, e1]
      repeat refine Does.seq ?_
      refine Does.condT (by simp) ?_
      repeat refine Does.seq ?_
      refine Does.region ?_
      simp [Try.underlying21, Try.underlying5, hcv, vcall_callable hk68, hcall]
      refine Does.ret ?_
      simp
      exact ⟨w, rfl, by rw [hge, hcc]; exact ⟨fun h => ⟨h1, h⟩, fun h => h.2⟩, .refl st⟩
    · rw [decide_eq_false h1] at e1
      obtain ⟨h128, hv⟩ : 128 ≤ c ∧ Utf8.valid (c : Int) = true := (hc.resolve_left h1).resolve_left hcb
      have e2 : ∀ kk, vbin Try.prog kk .eql 21 (.int .i32 (c : Int)) (.int .i32 65533) = some (.bool false) := fun kk => (vI_eql (m := 65533) (by omega)).trans (by rw [decide_eq_false hcb])
      have hvc := ihCall_W (valid_ok gl st c hv)
      simp [e0, e1]
      repeat refine Does.seq ?_
      refine Does.condF (by simp) ?_
      repeat refine Does.seq ?_
      refine Does.region ?_
      simp [e2]
      repeat refine Does.seq ?_
      refine Does.condF (by simp) ?_
      repeat refine Does.seq ?_
      refine Does.region ?_
      simp [vcall_callable hk69, hvc]
      repeat refine Does.seq ?_
      refine Does.condF (by simp) ?_
      refine Does.scope ?_
      repeat refine Does.seq ?_
      refine Does.region ?_
      obtain ⟨l2, l4, hbs⟩ := encode_facts h128 hv
      have hcv := vconv_rune (st := st) (c := (c : Int))
      have hrl : (S.ofList (Utf8.encode (c : Int)).data.toList).toList = (Utf8.encode (c : Int)).data.toList := S.toList_ofList _
      generalize (Utf8.encode (c : Int)).data.toList = rl at hcv l2 l4 hbs hrl
      have hrn : (S.ofList rl).n = rl.length := rfl
      generalize S.ofList rl = rs at hcv hrl hrn
      have hlr := vlen_str Try.underlying9 (s := rs)
      have hlS := vlen_str Try.underlying9 (s := specialS)
      have hnS : specialS.n = 19 := rfl
      rw [hnS] at hlS
      simp [Try.underlying21, Try.underlying9, hcv]
      as_aux_lemma =>
      repeat refine Does.seq ?_
      refine Does.region ?_
      obtain ⟨la, hla⟩ : ∃ la, rs.n = la + 1 := ⟨rs.n - 1, by omega⟩
      rw [hla] at hlr
      have w1 : IntKind.i64.wrap (la : Int) = (la : Int) := wrap_i64 (by omega) (by omega)
      simp [hlr, vbin_sub, w1]
      repeat refine Does.seq ?_
      refine Does.region ?_
      simp
      repeat refine Does.seq ?_
      refine Does.region ?_
      simp
      repeat refine Does.seq ?_
      refine Does.block (Does.loop ?_)
      repeat refine Does.seq ?_
      refine Does.region ?_
      have e3 : ∀ kk, vbin Try.prog kk .lss 3 (.int .i64 (la : Int)) (.int .i64 19) = some (.bool true) := fun kk => (vI_lss (m := 19) rfl).trans (by rw [decide_eq_true (by omega)])
      simp [hlS, e3]
      repeat refine Does.seq ?_
      refine Does.condT (by simp) ?_
      refine Does.skip ?_
      simp
      refine Does.block ?_
      refine Does.scope ?_
      repeat refine Does.seq ?_
      refine Does.draw (b := [0, 0, 3, 0, 0, 24, 63]) (l := [0, 1, 2, 3, 4, 5, 6]) (by kernel_rfl) (by kernel_rfl) (by kernel_rfl) ?_
      have i1 := vindex_str (P := Try.prog) (k := .i64) Try.underlying9 (s := specialS) (i := la) (by rw [hnS]; omega)
      have i2 := vindex_str (P := Try.prog) (k := .i64) Try.underlying9 (s := rs) (i := la) (by omega)
      have hb1 : specialS.at la < 128 := by
        have := specials_lt _ (specialS_list ▸ List.mem_of_getElem? (specialS.toList_at (i := la) (by rw [hnS]; omega)))
        have h2 := specialS.at_lt la
        simp at this; omega
      have hb2 : 128 ≤ rs.at la := by
        have := hbs _ (hrl ▸ List.mem_of_getElem? (rs.toList_at (i := la) (by omega)))
        have h2 := rs.at_lt la
        simp at this; omega
      have e4 : ∀ kk, vbin Try.prog kk .neq 5 (.int .u8 (specialS.at la : Int)) (.int .u8 (rs.at la : Int)) = some (.bool true) := fun kk => (vI_neq rfl).trans (by rw [decide_eq_false (by omega)]; rfl)
      simp [i1, i2, e4]
      repeat refine Does.seq ?_
      refine Does.condT (by simp) ?_
      repeat refine Does.seq ?_
      refine Does.draw (b := [0, 0, 2, 7, 0, 0, 48, 127, 255]) (l := [0, 1, 2, 3, 4, 5, 6, 7, 8]) (by kernel_rfl) (by kernel_rfl) (by kernel_rfl) ?_
      have hsl := vslice_lo (P := Try.prog) Try.underlying9 (s := specialS) (lo := la + 1) (by rw [hnS]; omega) (k := .i64)
      have hw := wrap_add (n := la) (m := 1) (by omega)
      have hcall := ihCall_W (strIndexByte gl { ctr := st.ctr + 7 + 9, box := st.box } (specialS.cut (la + 1) specialS.n) (rs.at la))
      have hnone : Lib.indexByte (specialS.cut (la + 1) specialS.n).toList (rs.at la).toUInt8 = -1 := by
        have hlt : ¬ 0 ≤ Lib.indexByte (specialS.cut (la + 1) specialS.n).toList (rs.at la).toUInt8 := by
          rw [indexByte_ge, rest_toList _ (by rw [hnS]; omega), specialS_list]
          intro hm
          have := specials_lt _ (List.mem_of_mem_drop hm)
          have h2 := rs.at_lt la
          simp [Nat.toUInt8] at this; omega
        rw [indexByte_eq] at hlt ⊢
        split at hlt
        · omega
        · rename_i h; rw [if_neg h]
      rw [hnone] at hcall
      simp at hsl hw
      generalize specialS.cut (la + 1) specialS.n = cu at hsl hcall
      simp [vbin_add, hw, hsl, i2, vcall_callable hk68, hcall]
      repeat refine Does.seq ?_
      refine Does.region ?_
      simp [vbin_lss]
      repeat refine Does.seq ?_
      refine Does.condT (by simp) ?_
      repeat refine Does.seq ?_
      refine Does.region ?_
      simp
      refine Does.ret ?_
      simp
      exact ⟨-1, rfl, by omega, ((Keep.refl st).tick 7).tick 9⟩
  obtain ⟨v, st', h, hr⟩ := main
  exact ⟨v, st', ihCall_W h, hr⟩
end Go.Vm

namespace Go.Vm
open Go Go.Proofs Go.Sy
attribute [local simp] Oks xOps vwanted isDefer vop kindOf vpure ev evs toV andThen inBlock atTo_some Fr.dsTo Fr.glTo Fr.toNone initFr_at initFr_ds initFr_gl veff traverse tupled vresult V.undef evOpt xDraw xStep

def asciiL : List V := (List.range 256).map fun i => .bool (specials.elem (UInt8.ofNat i))
theorem asciiL_len : asciiL.length = 256 := by simp [asciiL]
theorem asciiL_get {i : Nat} (h : i < 256) : asciiL[i]? = some (.bool (specials.elem (UInt8.ofNat i))) := by simp [asciiL, h]
theorem asciiL_one : asciiL.all oneC = true := by simp [asciiL, oneC]
theorem zs67' : (match zeroT Try.prog 67 with
  | some (.agg z) => Nat.beq z.length 256 && z.all oneC
  | _ => false) = true := by kernel_rfl
theorem zs67 : ∃ z, zeroT Try.prog 67 = some (.agg z) ∧ z.length = 256 ∧ z.all oneC = true := by
  have h := zs67'
  split at h
  · rename_i z hz
    simp only [Bool.and_eq_true] at h
    exact ⟨z, hz, Nat.eq_of_beq_eq_true h.1, h.2⟩
  · cases h
theorem sz67 : sizeT Try.prog 67 = some 256 := by kernel_rfl

theorem store_all {P : Program} {st : St} {t : TypeId} {id n : Nat} {cs l : List V} {e : TypeId} {fl : Bool} (hs : sizeT P t = some n) (hb : st.box.get id = some (.cells cs e fl (some 0))) (hc : cs.length = n) (hl : l.length = n) (ho : l.all oneC = true) :
    vstore P st t (.ptr id 0) (.agg l) = some { st with box := st.box.put id (.cells l e fl (some 0)) } := by
  have e1 : Nat.beq l.length n = true := by rw [hl, Nat.beq_refl]
  have e2 : Nat.ble (0 + n) cs.length = true := Nat.ble_eq_true_of_le (by omega)
  have e3 : over cs 0 l = l := by simp [over, hl, hc]
  simp only [vstore, hs, hb, V.cells, e1, e2, ho, fzOk, Nat.ble, Bool.and_self, e3]

theorem vrange_ok {P : Program} {st : St} {t : TypeId} {s : S} (hT : P.underlying t = some .string) : vrange P st t (.str s) = some (.ptr st.ctr 0, { st with ctr := st.ctr + 1, box := st.box.put st.ctr (.iter s 0) }) := by
  simp only [vrange, hT]
theorem vnext_some {st : St} {id pos : Nat} {s : S} (hb : st.box.get id = some (.iter s pos)) (h : pos < s.n) : vnext st (.ptr id 0) true = some (.tup [.bool true, .int .i64 (pos : Int), .int .i32 ((Utf8.decode ⟨⟨s.toList⟩⟩ pos).1 : Int)], { st with box := st.box.put id (.iter s (pos + (Utf8.decode ⟨⟨s.toList⟩⟩ pos).2)) }) := by
  have : Nat.blt pos s.n = true := by rw [blt_dec]; exact decide_eq_true h
  simp only [vnext, hb, this]
  rfl
theorem vnext_none {st : St} {id pos : Nat} {s : S} (hb : st.box.get id = some (.iter s pos)) (h : ¬ pos < s.n) : vnext st (.ptr id 0) true = some (.tup [.bool false], st) := by
  have : Nat.blt pos s.n = false := by rw [blt_dec]; exact decide_eq_false h
  simp only [vnext, hb, this]

/-- is one of them special? -/
def anySp (l : List UInt8) : Bool := l.any fun b => specials.elem b

theorem any_take {s : S} {n : Nat} (hn : n < s.n) : anySp (s.toList.take (n + 1)) = (anySp (s.toList.take n) || specials.elem (UInt8.ofNat (s.at n))) := by
  unfold anySp
  rw [List.take_add_one, s.toList_at hn, List.any_append]
  simp
theorem any_at {s : S} {n : Nat} (hn : n < s.n) (h : specials.elem (UInt8.ofNat (s.at n)) = true) : anySp s.toList = true := by
  unfold anySp
  rw [List.any_eq_true]
  exact ⟨_, List.mem_of_getElem? (s.toList_at hn), h⟩
theorem any_skip {s : S} {n : Nat} : ∀ m, n + m ≤ s.n → (∀ j, n ≤ j → j < n + m → 128 ≤ s.at j) → anySp (s.toList.take n) = false → anySp (s.toList.take (n + m)) = false
  | 0, _, _, h => h
  | m + 1, hm, hj, h => by
    have ih := any_skip m (by omega) (fun j h1 h2 => hj j h1 (by omega)) h
    rw [← Nat.add_assoc, any_take (by omega), ih, Bool.false_or]
    cases he : specials.elem (UInt8.ofNat (s.at (n + m))) with
    | false => rfl
    | true =>
      have h1 := specials_lt _ (by simpa using he)
      have h2 := s.at_lt (n + m)
      have h3 := hj (n + m) (by omega) (by omega)
      simp at h1; omega

def AnyR (s : S) (st : St) (v : V) (st' : St) : Prop := ∃ w : Int, v = .int .i64 w ∧ decide (0 ≤ w) = anySp s.toList ∧ Keep st st'
def AnyQ (gl : Gl) (s : S) (st : St) (e : AE) (fr' : Fr) (st' : St) : Prop := Keep st st' ∧ fr'.ds = [] ∧ ((e = AE.ret ∧ ∃ w : Int, Fr.at fr' 4 = .int .i64 w ∧ decide (0 ≤ w) = anySp s.toList) ∨ (e = AE.normal ∧ fr'.gl = gl ∧ Fr.at fr' 0 = .str s ∧ Fr.at fr' 1 = .str specialS))

/-- what is known: the set of the special bytes; that a wrong rune is none of them -/
structure Hits [Memo] (gl : Gl) (aL : List V) : Prop where
  len : aL.length = 256
  get : ∀ i, i < 256 → aL[i]? = some (.bool (specials.elem (UInt8.ofNat i)))
  one : aL.all oneC = true
  set : ∀ st, ihCall (W Try.prog) gl (.f 64) [.str specialS] st = .val (.tup [.agg aL, .bool true]) st
  bad : ∀ st, ihCall (W Try.prog) gl (.f 62) [.str specialS, .int .i32 65533] st = .val (.int .i64 (-1)) st
  no : ∀ (c : Nat) st, c ≠ 65533 → (Memo.look 62).run [V.str specialS, .int .i32 (c : Int)] st = none

variable [Memo] [NY]

theorem contains_ok (gl : Gl) (st : St) (id : Nat) (e : TypeId) (fl : Bool) {aL : List V} (hget : ∀ i, i < 256 → aL[i]? = some (.bool (specials.elem (UInt8.ofNat i)))) (hb : st.box.get id = some (.cells aL e fl (some 0))) (c : Nat) (hc : c < 256) :
    W Try.prog (.call gl 65 [.ptr id 0, .int .u8 (c : Int)]) st = .call (.val (.bool (specials.elem (UInt8.ofNat c))) st) := by
  have z4 : sizeT Try.prog 4 = some 1 := by kernel_rfl
  have a4 : isAggT Try.prog 4 = some false := by kernel_rfl
  have hblt : Nat.blt c 256 = true := by rw [blt_dec]; exact decide_eq_true hc
  have hia : vindexAddr Try.prog 67 (.ptr id 0) (.int .u8 (c : Int)) = some (.ptr id c) := by
    simp only [vindexAddr, Try.underlying67, asNat_cast, z4, hblt, Nat.mul_one, Nat.zero_add]
  have hl := vload_of (P := Try.prog) (off := c) a4 z4 hb (hget c hc)
  generalize specials.elem (UInt8.ofNat c) = b at hl
  refine call_does (NY.no _ rfl rfl _ _) Try.func65 rfl (by kernel_rfl) ?_
  repeat refine Does.seq ?_
  refine Does.region ?_
  simp
  repeat refine Does.seq ?_
  refine Does.region ?_
  simp [hia, hl]
  refine Does.ret ?_
  simp [Try.f65]

theorem should_ok (gl : Gl) (st : St) (n : Nat) : W Try.prog (.call gl 63 [.int .i64 (n : Int)]) st = .call (.val (.bool (decide (8 < n))) st) := by
  have e1 : ∀ kk, vbin Try.prog kk .gtr 3 (.int .i64 (n : Int)) (.int .i64 8) = some (.bool (decide (8 < n))) := fun kk => vI_gtr rfl
  generalize decide (8 < n) = b at e1
  refine call_does (NY.no _ rfl rfl _ _) Try.func63 rfl (by kernel_rfl) ?_
  repeat refine Does.seq ?_
  refine Does.region ?_
  simp
  repeat refine Does.seq ?_
  refine Does.region ?_
  simp [e1]
  refine Does.ret ?_
  simp [Try.f63]

set_option maxHeartbeats 1000000 in
set_option maxRecDepth 100000 in
theorem indexAny_ok (gl : Gl) {aL : List V} (hh : Hits gl aL) (st : St) (s : S) (hs : s.n < 4000000000000000000) :
    ∃ v st', W Try.prog (.call gl 57 [.str s, .str specialS]) st = .call (.val v st') ∧ AnyR s st v st' := by
  have hk62 : callable Try.prog 62 = true := by kernel_rfl
  have hk63 : callable Try.prog 63 = true := by kernel_rfl
  have hk64 : callable Try.prog 64 = true := by kernel_rfl
  have hk65 : callable Try.prog 65 = true := by kernel_rfl
  have hlen := vlen_str Try.underlying9 (s := s)
  have hlS := vlen_str Try.underlying9 (s := specialS)
  have hnS : specialS.n = 19 := rfl
  rw [hnS] at hlS
  have hsS : specialS.same (S.ofList []) = false := by rw [same_empty, hnS]; rfl
  refine call_ex (NY.no _ rfl rfl _ _) Try.func57 rfl (by kernel_rfl) ?_
  repeat refine Does.seq ?_
  refine Does.region ?_
  simp
  repeat refine Does.seq ?_
  refine Does.region ?_
  simp [vbin_seql, hsS]
  repeat refine Does.seq ?_
  refine Does.condF (by simp) ?_
  refine Does.skip ?_
  simp
  repeat refine Does.seq ?_
  refine Does.region ?_
  simp [hlS, vbin_eql]
  repeat refine Does.seq ?_
  refine Does.condF (by simp) ?_
  refine Does.skip ?_
  simp
  repeat refine Does.seq ?_
  refine Does.region ?_
  have hsh := ihCall_W (should_ok gl st s.n)
  refine Oks.cont (Q := fun fr st' => st' = st ∧ Fr.at fr 26 = .bool (decide (8 < s.n)) ∧ fr.ds = [] ∧ fr.gl = gl ∧ Fr.at fr 0 = .str s ∧ Fr.at fr 1 = .str specialS) ?r8 ?rest
  case r8 =>
    generalize decide (8 < s.n) = b at hsh
    simp [hlen, vcall_callable hk63, hsh]
  case rest =>
  rintro fr st' ⟨hst', h26, hds, hg, h0, h1⟩
  rw [hst']
  clear hst'
  simp only [andThen]
  repeat refine Does.seq ?_
  refine Does.mono (Q := AnyQ gl s st) ?big ?tail
  case big =>
    by_cases h8 : 8 < s.n
    · rw [decide_eq_true h8] at h26
      refine Does.condT (by simp [h26]) ?_
      repeat refine Does.seq ?_
      refine Does.region ?_
      have hset := hh.set st
      obtain ⟨z256, hz67, hzl, hz1⟩ := zs67
      have hzc : (V.agg z256).cells = z256 := rfl
      have hst := store_all (P := Try.prog) (st := { ctr := st.ctr + 1, box := st.box.put st.ctr (.cells z256 67 true (some 0)) }) (id := st.ctr) (cs := z256) (l := aL) (e := 67) (fl := true) sz67 (by rw [Tr.get_put, if_pos rfl]) hzl hh.len hh.one
      have hkp : Keep st { ctr := st.ctr + 1, box := (st.box.put st.ctr (.cells z256 67 true (some 0))).put st.ctr (.cells aL 67 true (some 0)) } := Keep.put (id := st.ctr) ((Keep.refl st).new _) (Nat.le_refl _) _
      have hbx : ({ ctr := st.ctr + 1, box := (st.box.put st.ctr (.cells z256 67 true (some 0))).put st.ctr (.cells aL 67 true (some 0)) } : St).box.get st.ctr = some (.cells aL 67 true (some 0)) := by rw [Tr.get_put, if_pos rfl]
      simp only at hst
      obtain ⟨b1, hb1⟩ : ∃ b, b = true := ⟨true, rfl⟩
      have hz2 : z256.all oneC = b1 := by rw [hz1, hb1]
      simp [h1, hg, vcall_callable hk64, hset, valloc, hz67, hzc, hz2, hb1, mkRef, vact, hst]
      revert hkp hbx
      generalize ({ ctr := st.ctr + 1, box := (st.box.put st.ctr (.cells z256 67 true (some 0))).put st.ctr (.cells aL 67 true (some 0)) } : St) = st1
      intro hkp hbx
      repeat refine Does.seq ?_
      refine Does.region ?_
      simp
      repeat refine Does.seq ?_
      refine Does.condT (by simp) ?_
      repeat refine Does.seq ?_
      refine Does.region ?_
      simp
      refine Does.mono (Q := fun e fr' st' => st' = st1 ∧ fr'.ds = [] ∧ ((e = AE.ret ∧ ∃ w : Int, Fr.at fr' 4 = .int .i64 w ∧ decide (0 ≤ w) = anySp s.toList) ∨ (e = AE.normal ∧ anySp s.toList = false))) ?aloop ?atail
      case atail =>
        rintro e fr' st' ⟨rfl, hds, ⟨rfl, w, h4, hw⟩ | ⟨rfl, hno⟩⟩
        · exact ⟨hkp, hds, .inl ⟨rfl, w, h4, hw⟩⟩
        · simp only [andThen]
          repeat refine Does.seq ?_
          refine Does.region ?_
          simp
          refine Does.ret ?_
          exact ⟨hkp, by simp [hds], .inl ⟨rfl, -1, by simp, by rw [hno]; rfl⟩⟩
      case aloop =>
        generalize hA : anySp s.toList = A
        refine Does.block (Does.up s.n (fun n fr st' => st' = st1 ∧ fr.ds = [] ∧ fr.gl = gl ∧ Fr.at fr 0 = .str s ∧ Fr.at fr 6 = .ptr st.ctr 0 ∧ Fr.at fr 8 = .int .i64 (n : Int) ∧ n ≤ s.n ∧ anySp (s.toList.take n) = false) 0 ?init ?bound ?step)
        case init => exact ⟨rfl, by simp [hds], by simp [hg], by simp [h0], by simp, by simp, Nat.zero_le _, rfl⟩
        case bound => exact fun i fr st' h => h.2.2.2.2.2.2.1
        case step =>
          clear hds hg h0 h1
          rintro n fr st' ⟨rfl, hds, hg, h0, h6, h8', hn, hall⟩
          repeat refine Does.seq ?_
          refine Does.region ?_
          have elen : ∀ kk, vbin Try.prog kk .lss 3 (.int .i64 (n : Int)) (.int .i64 (s.n : Int)) = some (.bool (decide (n < s.n))) := fun kk => vI_lss rfl
          by_cases hlt : n < s.n
          · rw [decide_eq_true hlt] at elen
            have hix2 := vindex_str (P := Try.prog) (k := .i64) Try.underlying9 hlt
            have hco := ihCall_W (contains_ok gl st' st.ctr 67 true hh.get hbx (s.at n) (s.at_lt n))
            have w1 : IntKind.i64.wrap ((n : Int) + 1) = (n : Int) + 1 := wrap_i64 (by omega) (by omega)
            simp [h0, h8', hlen, elen]
            repeat refine Does.seq ?_
            refine Does.condT (by simp) ?_
            refine Does.skip ?_
            simp
            repeat refine Does.seq ?_
            refine Does.block ?_
            repeat refine Does.seq ?_
            refine Does.region ?_
            cases hcc : specials.elem (UInt8.ofNat (s.at n)) with
            | true =>
              rw [hcc] at hco
              simp [h0, h6, h8', hg, hix2, vcall_callable hk65, hco]
              repeat refine Does.seq ?_
              refine Does.condT (by simp) ?_
              repeat refine Does.seq ?_
              refine Does.region ?_
              simp [h8']
              refine Does.ret ?_
              simp only [inBlock, andThen]
              exact ⟨trivial, by simp [hds], .inl ⟨trivial, (n : Int), by simp, by rw [← hA, any_at hlt hcc]; simp⟩⟩
            | false =>
              rw [hcc] at hco
              simp [h0, h6, h8', hg, hix2, vcall_callable hk65, hco]
              repeat refine Does.seq ?_
              refine Does.condF (by simp) ?_
              refine Does.skip ?_
              simp
              refine Does.region ?_
              simp [h8', vbin_add, w1]
              exact ⟨n + 1, by omega, hds, hg, h0, h6, by simp, by omega, by rw [any_take hlt, hall, hcc]; rfl⟩
          · rw [decide_eq_false hlt] at elen
            simp [h0, h8', hlen, elen]
            repeat refine Does.seq ?_
            refine Does.condF (by simp) ?_
            refine Does.exit ?_
            simp only [inBlock, if_true, andThen]
            rw [List.take_of_length_le (by simp; omega)] at hall
            exact ⟨trivial, by simp [hds], .inr ⟨trivial, hA.symm.trans hall⟩⟩
    · rw [decide_eq_false h8] at h26
      refine Does.condF (by simp [h26]) ?_
      refine Does.skip ?_
      exact ⟨.refl st, hds, .inr ⟨rfl, hg, h0, h1⟩⟩
  case tail =>
    clear hds hg h0 h1 h26
    rintro e fr st1 ⟨hk1, hds, ⟨rfl, w, h4, hw⟩ | ⟨rfl, hg, h0, h1⟩⟩
    · simp only [andThen]
      simp [hds, h4]
      exact ⟨w, rfl, hw, hk1⟩
    · simp only [andThen]
      repeat refine Does.seq ?_
      refine Does.region ?_
      have hvr := vrange_ok (P := Try.prog) (st := st1) (s := s) Try.underlying9
      have hkn : Keep st { st1 with ctr := st1.ctr + 1, box := st1.box.put st1.ctr (.iter s 0) } := hk1.new _
      have hbx : ({ st1 with ctr := st1.ctr + 1, box := st1.box.put st1.ctr (.iter s 0) } : St).box.get st1.ctr = some (.iter s 0) := by rw [Tr.get_put, if_pos rfl]
      have hct : st1.ctr < ({ st1 with ctr := st1.ctr + 1, box := st1.box.put st1.ctr (.iter s 0) } : St).ctr := Nat.lt_succ_self _
      simp [h0, vact, hvr]
      have hst1 : st.ctr ≤ st1.ctr := hk1.ctr
      revert hkn hbx hct
      generalize ({ ctr := st1.ctr + 1, box := st1.box.put st1.ctr (.iter s 0) } : St) = st2
      generalize st1.ctr = id at hst1
      intro hkn hbx hct
      refine Does.mono (Q := fun e fr' st' => Keep st st' ∧ fr'.ds = [] ∧ ((e = AE.ret ∧ ∃ w : Int, Fr.at fr' 4 = .int .i64 w ∧ decide (0 ≤ w) = anySp s.toList) ∨ (e = AE.normal ∧ anySp s.toList = false))) ?rloop ?rtail
      case rtail =>
        clear hds hg h0 h1
        rintro e fr' st' ⟨hk', hds, ⟨rfl, w, h4, hw⟩ | ⟨rfl, hno⟩⟩
        · simp only [andThen]
          simp [hds, h4]
          exact ⟨w, rfl, hw, hk'⟩
        · simp only [andThen]
          repeat refine Does.seq ?_
          refine Does.region ?_
          simp
          refine Does.ret ?_
          simp [hds]
          exact ⟨-1, rfl, by rw [hno]; rfl, hk'⟩
      case rloop =>
        generalize hA : anySp s.toList = A
        refine Does.block (Does.up s.n (fun n fr st' => Keep st st' ∧ id < st'.ctr ∧ st'.box.get id = some (.iter s n) ∧ fr.ds = [] ∧ fr.gl = gl ∧ Fr.at fr 1 = .str specialS ∧ Fr.at fr 45 = .ptr id 0 ∧ n ≤ s.n ∧ anySp (s.toList.take n) = false) 0 ?init ?bound ?step)
        case init => exact ⟨hkn, hct, hbx, by simp [hds], by simp [hg], by simp [h1], by simp, Nat.zero_le _, rfl⟩
        case bound => exact fun i fr st' h => h.2.2.2.2.2.2.2.1
        case step =>
          clear hds hg h0 h1 hkn hct hbx hvr
          rintro n fr st' ⟨hk', hct, hbx, hds, hg, h1, h45, hn, hall⟩
          repeat refine Does.seq ?_
          refine Does.region ?_
          by_cases hlt : n < s.n
          · have hnx := vnext_some hbx hlt
            obtain ⟨d1, d2⟩ := decode_facts s hlt
            generalize Utf8.decode ⟨⟨s.toList⟩⟩ n = d at hnx d1 d2
            obtain ⟨c, wd⟩ := d
            simp only at hnx d2
            simp [h45, vact, hnx]
            have hk2 : Keep st { ctr := st'.ctr, box := st'.box.put id (.iter s (n + wd)) } := hk'.put hst1 _
            have hbx2 : ({ ctr := st'.ctr, box := st'.box.put id (.iter s (n + wd)) } : St).box.get id = some (.iter s (n + wd)) := by rw [Tr.get_put, if_pos rfl]
            have hct2 : id < ({ ctr := st'.ctr, box := st'.box.put id (.iter s (n + wd)) } : St).ctr := hct
            revert hk2 hbx2 hct2
            generalize ({ ctr := st'.ctr, box := st'.box.put id (.iter s (n + wd)) } : St) = st3
            intro hk2 hbx2 hct2
            repeat refine Does.seq ?_
            refine Does.condT (by simp) ?_
            refine Does.skip ?_
            simp
            refine Does.block ?_
            repeat refine Does.seq ?_
            refine Does.region ?_
            simp
            repeat refine Does.seq ?_
            refine Does.region ?_
            have hcc : c < 128 ∨ c = 65533 ∨ (128 ≤ c ∧ Utf8.valid (c : Int) = true) := by
              rcases Nat.lt_or_ge (s.at n) 128 with h | h
              · have := d1 h
                simp only [Prod.mk.injEq] at this
                left; omega
              · obtain ⟨q1, q2, _⟩ := d2 h
                rcases q2 with q2 | q2
                · exact .inr (.inl q2)
                · exact .inr (.inr ⟨q1, q2⟩)
            obtain ⟨v, st4, hcall, w, rfl, hw, hk4⟩ := indexRune_ok gl hh.bad st3 c hcc (fun args st h1 h2 => by rw [h2]; exact hh.no c st h1)
            have hsp : decide (0 ≤ w) = (decide (s.at n < 128) && specials.elem (UInt8.ofNat (s.at n))) := by
              rw [Bool.eq_iff_iff, decide_eq_true_eq, hw, Bool.and_eq_true, decide_eq_true_eq]
              rcases Nat.lt_or_ge (s.at n) 128 with h | h
              · have := d1 h
                simp only [Prod.mk.injEq] at this
                obtain ⟨rfl, rfl⟩ := this
                simp
              · obtain ⟨q1, _⟩ := d2 h
                constructor
                · rintro ⟨h1, _⟩; omega
                · rintro ⟨h1, _⟩; omega
            simp [h1, hg, vcall_callable hk62, hcall, vbin_geq]
            repeat refine Does.seq ?_
            by_cases hw0 : 0 ≤ w
            · refine Does.condT (by simp [hw0]) ?_
              repeat refine Does.seq ?_
              refine Does.region ?_
              simp
              refine Does.ret ?_
              rw [decide_eq_true hw0] at hsp
              have hsp2 := hsp.symm
              simp only [Bool.and_eq_true] at hsp2
              simp only [inBlock, andThen]
              exact ⟨hk2.trans hk4, by simp [hds], .inl ⟨trivial, (n : Int), by simp, by rw [← hA, any_at hlt hsp2.2]; simp⟩⟩
            · refine Does.condF (by simp [hw0]) ?_
              refine Does.skip ?_
              simp
              rw [decide_eq_false hw0] at hsp
              have hbx4 : st4.box.get id = some (.iter s (n + wd)) := by rw [hk4.box id hct2]; exact hbx2
              rcases Nat.lt_or_ge (s.at n) 128 with h | h
              · have := d1 h
                simp only [Prod.mk.injEq] at this
                obtain ⟨rfl, rfl⟩ := this
                rw [decide_eq_true h, Bool.true_and] at hsp
                exact ⟨n + 1, by omega, hk2.trans hk4, by have := hk4.ctr; omega, hbx4, hds, hg, h1, h45, by omega, by rw [any_take hlt, hall, ← hsp]; rfl⟩
              · obtain ⟨_, _, q3, q4, q5⟩ := d2 h
                exact ⟨n + wd, by omega, hk2.trans hk4, by have := hk4.ctr; omega, hbx4, hds, hg, h1, h45, q4, any_skip wd q4 q5 hall⟩
          · have hnx := vnext_none hbx hlt
            simp [h45, vact, hnx]
            repeat refine Does.seq ?_
            refine Does.condF (by simp) ?_
            refine Does.exit ?_
            simp only [inBlock, if_true, andThen]
            rw [List.take_of_length_le (by simp; omega)] at hall
            exact ⟨hk', by simp [hds], .inr ⟨trivial, hA.symm.trans hall⟩⟩

theorem containsAny_ok (gl : Gl) {aL : List V} (hh : Hits gl aL) (st : St) (s : S) (hs : s.n < 4000000000000000000) :
    ∃ v st', W Try.prog (.call gl 49 [.str s, .str specialS]) st = .call (.val v st') ∧ v = .bool (anySp s.toList) ∧ Keep st st' := by
  have hk57 : callable Try.prog 57 = true := by kernel_rfl
  obtain ⟨v, st', hc, w, rfl, hw, hk⟩ := indexAny_ok gl hh st s hs
  have hc := ihCall_W hc
  refine call_ex (NY.no _ rfl rfl _ _) Try.func49 rfl (by kernel_rfl) ?_
  repeat refine Does.seq ?_
  refine Does.region ?_
  simp
  repeat refine Does.seq ?_
  refine Does.region ?_
  simp [vcall_callable hk57, hc, vbin_geq]
  refine Does.ret ?_
  rw [← hw]
  simp [hk]

omit [Memo] [NY] in
theorem plainL_eq (s : S) (first : Bool) : plainL s.toList first = (!decide (s.n = 0) && !anySp s.toList && !(first && (decide (s.at 0 = 35) || decide (s.at 0 = 126)))) := by
  by_cases h0 : s.n = 0
  · have : s.toList = [] := List.eq_nil_of_length_eq_zero (by rw [S.len, h0])
    rw [this, decide_eq_true h0]; rfl
  · have h1 := s.drop_at (i := 0) (by omega)
    rw [List.drop_zero] at h1
    rw [decide_eq_false h0]
    have e35 : (UInt8.ofNat (s.at 0) = 35) ↔ s.at 0 = 35 := byte_eq (b := 35) (s.at_lt 0) (by decide)
    have e126 : (UInt8.ofNat (s.at 0) = 126) ↔ s.at 0 = 126 := byte_eq (b := 126) (s.at_lt 0) (by decide)
    unfold plainL
    have hne : s.toList.isEmpty = false := by rw [h1]; rfl
    have hhd : s.toList.head? = some (UInt8.ofNat (s.at 0)) := by rw [h1]; rfl
    have hall : (s.toList.all fun c => !specials.elem c) = !anySp s.toList := by
      unfold anySp
      rw [List.not_any_eq_all_not]
    rw [hne, hhd, hall]
    have q1 : (some (UInt8.ofNat (s.at 0)) == some 35) = decide (s.at 0 = 35) := by rw [Bool.eq_iff_iff]; simp [e35]
    have q2 : (some (UInt8.ofNat (s.at 0)) == some 126) = decide (s.at 0 = 126) := by rw [Bool.eq_iff_iff]; simp [e126]
    rw [q1, q2]

theorem plain_ok (gl : Gl) {aL : List V} (hh : Hits gl aL) (st : St) (s : S) (first : Bool) (hs : s.n < 4000000000000000000) :
    ∃ v st', W Try.prog (.call gl 38 [.str s, .bool first]) st = .call (.val v st') ∧ v = .bool (plainL s.toList first) ∧ Keep st st' := by
  have hk49 : callable Try.prog 49 = true := by kernel_rfl
  obtain ⟨v, st', hc, rfl, hk⟩ := containsAny_ok gl hh st s hs
  have hc := ihCall_W hc
  have hse := same_empty s
  rw [plainL_eq]
  unfold specialS at hc
  refine call_ex (NY.no _ rfl rfl _ _) Try.func38 rfl (by kernel_rfl) ?_
  repeat refine Does.seq ?_
  refine Does.region ?_
  simp
  repeat refine Does.seq ?_
  refine Does.region ?_
  by_cases h0 : s.n = 0
  · rw [decide_eq_true h0] at hse
    rw [decide_eq_true h0]
    simp [vbin_sneq, hse]
    refine Does.ret ?_
    simp [Keep.refl]
  · have hix := vindex_str (P := Try.prog) (k := .i64) Try.underlying9 (s := s) (i := 0) (by omega)
    simp only [Int.ofNat_zero, Int.natCast_zero, Int.cast_ofNat_Int] at hix
    have f1 : ∀ kk, vbin Try.prog kk .eql 5 (.int .u8 (s.at 0 : Int)) (.int .u8 35) = some (.bool (decide (s.at 0 = 35))) := fun kk => vI_eql rfl
    have f2 : ∀ kk, vbin Try.prog kk .eql 5 (.int .u8 (s.at 0 : Int)) (.int .u8 126) = some (.bool (decide (s.at 0 = 126))) := fun kk => vI_eql rfl
    rw [decide_eq_false h0] at hse
    rw [decide_eq_false h0]
    generalize anySp s.toList = A at hc
    generalize decide (s.at 0 = 35) = b1 at f1
    generalize decide (s.at 0 = 126) = b2 at f2
    cases A <;> cases first <;> cases b1 <;> cases b2 <;> simp [vbin_sneq, hse, vcall_callable hk49, hc, hix, f1, f2] <;> refine Does.ret ?_ <;> simp [hk]
end Go.Vm

namespace Go.Vm
open Go Go.Proofs Go.Sy
attribute [local simp] Oks xOps vwanted isDefer vop kindOf vpure ev evs toV andThen inBlock atTo_some Fr.dsTo Fr.glTo Fr.toNone initFr_at initFr_ds initFr_gl veff traverse tupled vresult V.undef evOpt xDraw xStep

structure Wp where
  v : Bool
  t : S
  q : Bool
  deriving Inhabited

def Wp.cells (p : Wp) : List V := [.bool p.v, .str p.t, .bool p.q]
/-- a part, its text as bytes -/
def Wp.key (p : Wp) : Bool × List UInt8 × Bool := (p.v, p.t.toList, p.q)
def ptsV (l : List Wp) : List V := l.flatMap Wp.cells

theorem ptsV_len (l : List Wp) : (ptsV l).length = l.length * 3 := by
  induction l with
  | nil => rfl
  | cons a l ih => simp only [ptsV, List.flatMap_cons, List.length_append] at ih ⊢; rw [ih]; simp [Wp.cells]; omega
theorem ptsV_app (l m : List Wp) : ptsV (l ++ m) = ptsV l ++ ptsV m := by simp [ptsV]
theorem ptsV_one (l : List Wp) : (ptsV l).all oneC = true := by
  induction l with
  | nil => rfl
  | cons a l ih => simp only [ptsV, List.flatMap_cons, List.all_append] at ih ⊢; rw [ih]; rfl
theorem ptsV_drop : ∀ (l : List Wp) (i : Nat), (ptsV l).drop (i * 3) = ptsV (l.drop i)
  | l, 0 => by simp
  | [], i + 1 => by simp [ptsV]
  | a :: l, i + 1 => by
    have ih := ptsV_drop l i
    have e : ptsV (a :: l) = a.cells ++ ptsV l := rfl
    have h3 : a.cells.length = 3 := rfl
    rw [e, show (i + 1) * 3 = a.cells.length + i * 3 by rw [h3]; omega, List.drop_append]
    simp only [Nat.add_sub_cancel_left, List.drop_of_length_le (Nat.le_add_right ..), List.nil_append]
    rw [ih]; rfl

/-- an address that shows a part -/
inductive AdP (st : St) : V → Wp → Prop
  | cp (p : Wp) (r : List V) : AdP st (.cp (p.cells ++ r)) p
  | ptr (p : Wp) (id off : Nat) (cs r : List V) (e : TypeId) (fl : Bool) (fz : Option Nat) (hb : st.box.get id = some (.cells cs e fl fz)) (hid : id < st.ctr) (hd : cs.drop off = p.cells ++ r) : AdP st (.ptr id off) p

theorem AdP.keep {st st' : St} (hk : Keep st st') {a : V} {p : Wp} (h : AdP st a p) : AdP st' a p := by
  cases h with
  | cp p r => exact .cp p r
  | ptr p id off cs r e fl fz hb hid hd => exact .ptr p id off cs r e fl fz (by rw [hk.box id hid]; exact hb) (Nat.lt_of_lt_of_le hid hk.ctr) hd

theorem z33 : sizeT Try.prog 33 = some 3 := by kernel_rfl
theorem a33 : isAggT Try.prog 33 = some true := by kernel_rfl
theorem sz4 : sizeT Try.prog 4 = some 1 := by kernel_rfl
theorem sa4 : isAggT Try.prog 4 = some false := by kernel_rfl
theorem sz9 : sizeT Try.prog 9 = some 1 := by kernel_rfl
theorem sa9 : isAggT Try.prog 9 = some false := by kernel_rfl
theorem sz29 : sizeT Try.prog 29 = some 1 := by kernel_rfl
theorem sa29 : isAggT Try.prog 29 = some false := by kernel_rfl
theorem pf0 (l : List V) : vfieldAddr Try.prog 33 (.cp l) 0 = some (.cp l) := by kernel_rfl
theorem pf1 (l : List V) : vfieldAddr Try.prog 33 (.cp l) 1 = some (.cp (l.drop 1)) := by kernel_rfl
theorem pf2 (l : List V) : vfieldAddr Try.prog 33 (.cp l) 2 = some (.cp (l.drop 2)) := by kernel_rfl
theorem pg0 (id off : Nat) : vfieldAddr Try.prog 33 (.ptr id off) 0 = some (.ptr id off) := by kernel_rfl
theorem pg1 (id off : Nat) : vfieldAddr Try.prog 33 (.ptr id off) 1 = some (.ptr id (off + 1)) := by kernel_rfl
theorem pg2 (id off : Nat) : vfieldAddr Try.prog 33 (.ptr id off) 2 = some (.ptr id (off + 2)) := by kernel_rfl

/-- what an address of a part gives -/
theorem AdP.loads {st : St} {a : V} {p : Wp} (h : AdP st a p) : vload Try.prog st 33 a = some (.agg p.cells) ∧
    (∃ b, vfieldAddr Try.prog 33 a 0 = some b ∧ vload Try.prog st 4 b = some (.bool p.v)) ∧ (∃ b, vfieldAddr Try.prog 33 a 1 = some b ∧ vload Try.prog st 9 b = some (.str p.t)) ∧ (∃ b, vfieldAddr Try.prog 33 a 2 = some b ∧ vload Try.prog st 4 b = some (.bool p.q)) := by
  cases h with
  | cp p r =>
    refine ⟨?_, ⟨_, pf0 _, ?_⟩, ⟨_, pf1 _, ?_⟩, ⟨_, pf2 _, ?_⟩⟩
    · simp only [vload, vpart, a33, z33, sub]
      rfl
    · simp only [vload, vpart, sa4, sz4]; rfl
    · simp only [vload, vpart, sa9, sz9]; rfl
    · simp only [vload, vpart, sa4, sz4]; rfl
  | ptr p id off cs r e fl fz hb hid hd =>
    have hlen : off + 3 ≤ cs.length := by
      have := congrArg List.length hd
      simp [Wp.cells] at this; omega
    have g : ∀ k, k < 3 → cs[off + k]? = p.cells[k]? := fun k hk => by
      have := congrArg (fun z => z[k]?) hd
      simp only [List.getElem?_drop] at this
      rw [this, List.getElem?_append_left (by simpa [Wp.cells] using hk)]
    refine ⟨?_, ⟨_, pg0 _ _, vload_of sa4 sz4 hb (g 0 (by decide))⟩, ⟨_, pg1 _ _, vload_of sa9 sz9 hb (g 1 (by decide))⟩, ⟨_, pg2 _ _, vload_of sa4 sz4 hb (g 2 (by decide))⟩⟩
    have e1 : Nat.ble (off + 3) cs.length = true := Nat.ble_eq_true_of_le hlen
    simp only [vload, hb, vpart, a33, z33, e1, sub, hd]
    rfl

/-- a slice that shows parts -/
inductive Vp (st : St) : V → List Wp → Prop
  | nils : Vp st .nils []
  | sl (l : List Wp) (ex : Bool) : Vp st (.sl l.length (ptsV l) ex) l
  | ms (id off : Nat) (cap : Option Nat) (cs r : List V) (e : TypeId) (fl : Bool) (fz : Option Nat) (l : List Wp) (hb : st.box.get id = some (.cells cs e fl fz)) (hid : id < st.ctr) (hd : cs.drop off = ptsV l ++ r) (ho : off ≤ cs.length) (hc : capLe l.length l.length cap = true) : Vp st (.ms id off l.length 3 cap) l

theorem Vp.keep {st st' : St} (hk : Keep st st') {x : V} {l : List Wp} (h : Vp st x l) : Vp st' x l := by
  cases h with
  | nils => exact .nils
  | sl l ex => exact .sl l ex
  | ms id off cap cs r e fl fz l hb hid hd ho hc => exact .ms id off cap cs r e fl fz l (by rw [hk.box id hid]; exact hb) (Nat.lt_of_lt_of_le hid hk.ctr) hd ho hc
theorem Vp.one {st : St} {x : V} {l : List Wp} (h : Vp st x l) : oneC x = true := by cases h <;> rfl
theorem Vp.veq {st : St} {x : V} {l : List Wp} (h : Vp st x l) (hl : x = .nils ∨ ∃ id off n cap, x = .ms id off n 3 cap) : veq 1000000000 x x = true := by
  rcases hl with rfl | ⟨_, _, _, _, rfl⟩ <;> simp [Go.Vm.veq]

theorem Vp.len {st : St} {x : V} {l : List Wp} (h : Vp st x l) : vlen Try.prog 29 x = some (.int .i64 (l.length : Int)) := by
  cases h <;> simp [vlen, Try.underlying29]

/-- the i-th part's address, at whatever time -/
theorem Vp.get {st : St} {x : V} {l : List Wp} (h : Vp st x l) {i : Nat} (hi : i < l.length) : ∃ a, (∀ k, vindexAddr Try.prog 29 x (.int k (i : Int)) = some a) ∧ AdP st a (l.getD i default) := by
  have hb : Nat.blt i l.length = true := by rw [blt_dec]; exact decide_eq_true hi
  have hdr : (ptsV l).drop (i * 3) = (l.getD i default).cells ++ ptsV (l.drop (i + 1)) := by
    rw [ptsV_drop, List.drop_eq_getElem_cons hi, List.getD_eq_getElem?_getD, List.getElem?_eq_getElem hi]
    rfl
  cases h with
  | nils => simp at hi
  | sl l ex =>
    refine ⟨.cp ((ptsV l).drop (i * 3)), fun k => by simp only [vindexAddr, Try.underlying29, asNat_cast, z33, hb], ?_⟩
    rw [hdr]
    exact .cp _ _
  | ms id off cap cs r e fl fz l hbx hid hd ho hc =>
    refine ⟨.ptr id (off + i * 3), fun k => by simp only [vindexAddr, Try.underlying29, asNat_cast, z33, hb, Nat.beq_refl], ?_⟩
    refine .ptr _ id _ cs (ptsV (l.drop (i + 1)) ++ r) e fl fz hbx hid ?_
    rw [← List.drop_drop, hd, List.drop_append_of_le_length (by rw [ptsV_len]; omega), hdr, List.append_assoc]

theorem eq_bool {P : Program} {d : Nat} {t : TypeId} {a b : Bool} (h : P.underlying t = some .bool) : unSem P (Op.equalIn (d + 1) t (.bool a) (.bool b)) = some (a == b) := by
  simp only [Op.equalIn, unSem_bind_eq, unSem_underlying h, Option.bind_some]
  rfl

/-- two parts, compared -/
theorem part_neq (kk : Bool) (a b : Wp) : vbin Try.prog kk .neq 33 (.agg a.cells) (.agg b.cells) = some (.bool (!decide (a.key = b.key))) := by
  have hg : Try.prog.eqGuardType Try.prog.depth 33 = false := by kernel_rfl
  have hs : Try.prog.stoodInHeld 33 = false := by kernel_rfl
  have hkey : decide (a.key = b.key) = ((a.v == b.v) && a.t.same b.t && (a.q == b.q)) := by
    rw [S.same_eq, Bool.eq_iff_iff]
    simp [Wp.key, and_assoc]
  rw [hkey]
  simp only [Wp.cells, vbin, viaSem, traverse, ofV]
  have h3 : unSem Try.prog (Op.equal 33 (.agg #[.bool a.v, .string ⟨⟨a.t.toList⟩⟩, .bool a.q]) (.agg #[.bool b.v, .string ⟨⟨b.t.toList⟩⟩, .bool b.q])) = some ((a.v == b.v) && a.t.same b.t && (a.q == b.q)) := by
    unfold Op.equal
    show unSem Try.prog (Op.equalIn (9999 + 1) 33 _ _) = _
    rw [Op.equalIn]
    simp only [unSem_bind_eq, unSem_underlying Try.underlying33, Option.bind_some, unSem_program, hs]
    have q1 : unSem Try.prog (part 4 #[.bool a.v, .string ⟨⟨a.t.toList⟩⟩, .bool a.q] 0) = some (.bool a.v) := unSem_part sa4 rfl
    have q2 : unSem Try.prog (part 4 #[.bool b.v, .string ⟨⟨b.t.toList⟩⟩, .bool b.q] 0) = some (.bool b.v) := unSem_part sa4 rfl
    have q3 : unSem Try.prog (part 9 #[.bool a.v, .string ⟨⟨a.t.toList⟩⟩, .bool a.q] 1) = some (.string ⟨⟨a.t.toList⟩⟩) := unSem_part sa9 rfl
    have q4 : unSem Try.prog (part 9 #[.bool b.v, .string ⟨⟨b.t.toList⟩⟩, .bool b.q] 1) = some (.string ⟨⟨b.t.toList⟩⟩) := unSem_part sa9 rfl
    have q5 : unSem Try.prog (part 4 #[.bool a.v, .string ⟨⟨a.t.toList⟩⟩, .bool a.q] 2) = some (.bool a.q) := unSem_part sa4 rfl
    have q6 : unSem Try.prog (part 4 #[.bool b.v, .string ⟨⟨b.t.toList⟩⟩, .bool b.q] 2) = some (.bool b.q) := unSem_part sa4 rfl
    have eb : ∀ x y : Bool, unSem Try.prog (Op.equalIn 9999 4 (.bool x) (.bool y)) = some (x == y) := fun x y => eq_bool (d := 9998) Try.underlying4
    have e1 := eb a.v b.v
    have e2 : unSem Try.prog (Op.equalIn 9999 9 (.string ⟨⟨a.t.toList⟩⟩) (.string ⟨⟨b.t.toList⟩⟩)) = some (a.t.same b.t) := by rw [← bytes_beq]; exact eq_str (d := 9998) Try.underlying9
    have e3 := eb a.q b.q
    rw [if_neg (by decide)]
    simp only [List.forIn_toArray, List.forIn_cons, List.forIn_nil]
    have hn1 : ("Var" ≠ "_") = True := by decide
    have hn2 : ("Text" ≠ "_") = True := by decide
    have hn3 : ("Quoted" ≠ "_") = True := by decide
    simp only [unSem_bind_eq, hn1, hn2, hn3, if_true, q1, q2, q3, q4, q5, q6, e1, e2, e3, Option.bind_some]
    generalize (a.v == b.v) = b1 at e1 ⊢
    generalize a.t.same b.t = b2 at e2 ⊢
    generalize (a.q == b.q) = b3 at e3 ⊢
    cases b1 <;> cases b2 <;> cases b3 <;> simp [unSem_bind_eq, unSem_pure, q1, q2, q3, q4, q5, q6, e1, e2, e3]
  have h4 : unSem Try.prog (do eqGuard .neq 33 (opK kk) (.tmp 0) (.agg #[.bool a.v, .string ⟨⟨a.t.toList⟩⟩, .bool a.q]) (.agg #[.bool b.v, .string ⟨⟨b.t.toList⟩⟩, .bool b.q]); binOp .neq 33 (.agg #[.bool a.v, .string ⟨⟨a.t.toList⟩⟩, .bool a.q]) (.agg #[.bool b.v, .string ⟨⟨b.t.toList⟩⟩, .bool b.q])) = some (.bool (!((a.v == b.v) && a.t.same b.t && (a.q == b.q)))) := by
    simp only [unSem_bind_eq, eqGuard, unSem_program, hg, Option.bind_some, binOp, h3]
    simp [unSem_bind_eq, unSem_program, hg, unSem_pure]
  show (match unSem Try.prog (do eqGuard .neq 33 (opK kk) (.tmp 0) (.agg #[.bool a.v, .string ⟨⟨a.t.toList⟩⟩, .bool a.q]) (.agg #[.bool b.v, .string ⟨⟨b.t.toList⟩⟩, .bool b.q]); binOp .neq 33 (.agg #[.bool a.v, .string ⟨⟨a.t.toList⟩⟩, .bool a.q]) (.agg #[.bool b.v, .string ⟨⟨b.t.toList⟩⟩, .bool b.q])) with
    | some v => toV 6 v
    | none => none) = _
  rw [h4]
  rfl

theorem veq_part (p : Wp) : veq 1000000000 (.agg p.cells) (.agg p.cells) = true := by simp [Wp.cells, veq, veqs]

variable [Memo] [NY]

/-- slices.Equal of parts -/
theorem partsEqual_ok (gl : Gl) (st : St) (x y : V) (l m : List Wp) (hx : Vp st x l) (hy : Vp st y m) (hl : l.length < 4000000000000000000) :
    ∃ v st', W Try.prog (.call gl 23 [x, y]) st = .call (.val v st') ∧ v = .bool (decide (l.map Wp.key = m.map Wp.key)) ∧ Keep st st' := by
  have lx := hx.len
  have ly := hy.len
  refine call_ex (NY.no _ rfl rfl _ _) Try.func23 rfl (by kernel_rfl) ?_
  repeat refine Does.seq ?_
  refine Does.region ?_
  simp
  repeat refine Does.seq ?_
  refine Does.region ?_
  have ne : ∀ kk, vbin Try.prog kk .neq 3 (.int .i64 (l.length : Int)) (.int .i64 (m.length : Int)) = some (.bool (!decide (l.length = m.length))) := fun kk => vI_neq rfl
  by_cases hlm : l.length = m.length
  rotate_left
  · rw [decide_eq_false hlm] at ne
    have hne : ¬ l.map Wp.key = m.map Wp.key := fun h => hlm (by simpa using congrArg List.length h)
    simp [lx, ly, ne]
    repeat refine Does.seq ?_
    refine Does.condT (by simp) ?_
    repeat refine Does.seq ?_
    refine Does.region ?_
    simp
    refine Does.ret ?_
    simp [hne, Keep.refl]
  · rw [decide_eq_true hlm] at ne
    simp [lx, ly, ne]
    repeat refine Does.seq ?_
    refine Does.condF (by simp) ?_
    refine Does.skip ?_
    simp
    repeat refine Does.seq ?_
    refine Does.region ?_
    simp [lx]
    refine Does.mono (Q := fun e fr' st' => Keep st st' ∧ fr'.ds = [] ∧ ((e = AE.ret ∧ Fr.at fr' 4 = .bool false ∧ l.map Wp.key ≠ m.map Wp.key) ∨ (e = AE.normal ∧ l.map Wp.key = m.map Wp.key))) ?loop ?tail
    case tail =>
      rintro e fr' st' ⟨hk, hds, ⟨rfl, h4, hne⟩ | ⟨rfl, heq⟩⟩
      · simp [hds, hk, h4, hne]
      · simp
        repeat refine Does.seq ?_
        refine Does.region ?_
        simp
        refine Does.ret ?_
        simp [hds, hk, heq]
    case loop =>
      refine Does.block (Does.up l.length (fun i fr st' => Keep st st' ∧ fr.ds = [] ∧ Fr.at fr 0 = x ∧ Fr.at fr 1 = y ∧ Fr.at fr 12 = .int .i64 (l.length : Int) ∧ Fr.at fr 13 = .int .i64 (i : Int) ∧ i ≤ l.length ∧ (l.map Wp.key).take i = (m.map Wp.key).take i) 0 ?init ?bound ?step)
      case init => exact ⟨.refl st, by simp, by simp, by simp, by simp, by simp, Nat.zero_le _, by simp⟩
      case bound => exact fun i fr st' h => h.2.2.2.2.2.2.1
      case step =>
        rintro i fr st' ⟨hk, hds, h0, h1, h12, h13, hi, ht⟩
        have elen : ∀ kk, vbin Try.prog kk .lss 3 (.int .i64 (i : Int)) (.int .i64 (l.length : Int)) = some (.bool (decide (i < l.length))) := fun kk => vI_lss rfl
        repeat refine Does.seq ?_
        refine Does.region ?_
        by_cases hlt : i < l.length
        · rw [decide_eq_true hlt] at elen
          simp [h12, h13, elen]
          repeat refine Does.seq ?_
          refine Does.condT (by simp) ?_
          refine Does.skip ?_
          simp
          repeat refine Does.seq ?_
          refine Does.block ?_
          repeat refine Does.seq ?_
          refine Does.region ?_
          simp [h13]
          repeat refine Does.seq ?_
          refine Does.draw (b := [0, 0, 3, 7, 0, 0, 48, 112, 255]) (l := [0, 1, 2, 3, 4, 5, 6, 7, 8]) (by kernel_rfl) (by kernel_rfl) (by kernel_rfl) ?_
          have hkt := hk.tick 9
          obtain ⟨p, g1, g2⟩ := (hx.keep hkt).get hlt
          obtain ⟨q, g3, g4⟩ := (hy.keep hkt).get (show i < m.length by omega)
          have gx : (l.map Wp.key)[i]? = some (l.getD i default).key := by
            rw [List.getElem?_map, List.getD_eq_getElem?_getD, List.getElem?_eq_getElem hlt]; rfl
          have gy : (m.map Wp.key)[i]? = some (m.getD i default).key := by
            rw [List.getElem?_map, List.getD_eq_getElem?_getD, List.getElem?_eq_getElem (show i < m.length by omega)]; rfl
          generalize l.getD i default = ex at g2 gx
          generalize m.getD i default = ey at g4 gy
          have l1 := g2.loads.1
          have l2 := g4.loads.1
          have hne := part_neq false ex ey
          have v1 := veq_part ex
          have v2 := veq_part ey
          have i1 := g1 .i64
          have i2 := g3 .i64
          simp [sameIn, h0, h1, i1, i2, l1, l2, v1, v2, isK, hne]
          repeat refine Does.seq ?_
          by_cases heq : ex.key = ey.key
          · refine Does.condF (by simp [heq]) ?_
            refine Does.skip ?_
            simp
            refine Does.region ?_
            have hw : IntKind.i64.wrap ((i : Int) + 1) = (i : Int) + 1 := wrap_i64 (by omega) (by omega)
            simp [h13, vbin_add, hw]
            refine ⟨i + 1, by omega, hkt, hds, h0, h1, h12, by simp, by omega, ?_⟩
            rw [List.take_add_one, List.take_add_one, ht, gx, gy, heq]
          · refine Does.condT (by simp [heq]) ?_
            repeat refine Does.seq ?_
            refine Does.region ?_
            simp
            refine Does.ret ?_
            simp [hds, hkt]
            intro h
            rw [h, gy] at gx
            exact heq (Option.some.inj gx).symm
        · rw [decide_eq_false hlt] at elen
          simp [h12, h13, elen]
          repeat refine Does.seq ?_
          refine Does.condF (by simp) ?_
          refine Does.exit ?_
          simp [hds, hk]
          rwa [List.take_of_length_le (by simp; omega), List.take_of_length_le (by simp; omega)] at ht
end Go.Vm

namespace Go.Sy

/-- a part: a variable's value? its text; quoted? -/
abbrev Pk := Bool × List UInt8 × Bool

def partOk (p : Pk) (first : Bool) : Bool := if p.1 = true then paramL p.2.1 else if p.2.2 = true then !p.2.1.elem 0 else plainL p.2.1 first
def clash (q p : Pk) : Bool := (p.2.2 == q.2.2) && ((!p.1 && !q.1) || (p.2.2 && (p.2.1.isEmpty || q.2.1.isEmpty)))
def clashO : Option Pk → Pk → Bool
  | none, _ => false
  | some q, p => clash q p
def chkP : Option Pk → List Pk → Bool
  | _, [] => true
  | pv, p :: r => partOk p pv.isNone && !clashO pv p && chkP (some p) r
/-- a word that may be -/
def mayW (l : List Pk) : Bool := !l.isEmpty && chkP none l

def sp18 : List UInt8 := [32, 9, 10, 39, 34, 92, 36, 59, 38, 124, 60, 62, 40, 41, 42, 63, 91]
def badC (q : Bool) (c : UInt8) : Bool := c == 0 || (!q && (sp18.elem c || c == 96))
def nearO : Option Pk → Pk → Bool
  | none, _ => false
  | some q, p => !q.1 && (q.2.2 == p.2.2)
def quotO : Option Pk → Bool
  | none => false
  | some q => q.2.2
def refPart (p : Pk) (first : Bool) : Bool := (p.2.2 || !p.2.1.isEmpty) && p.2.1.all (fun c => !badC p.2.2 c) && !(first && !p.2.2 && (p.2.1.head? == some 35 || p.2.1.head? == some 126))
def refOne (p : Pk) (pv nx : Option Pk) : Bool := if p.1 = true then paramL p.2.1 else refPart p pv.isNone && !nearO pv p && !(p.2.2 && p.2.1.isEmpty && (quotO pv || quotO nx))
def chkR : Option Pk → List Pk → Bool
  | _, [] => true
  | pv, p :: r => refOne p pv r.head? && chkR (some p) r

theorem bad_spec (c : UInt8) : (!badC false c) = !specials.elem c := by
  have h : ∀ n : Nat, n < 256 → (!badC false (UInt8.ofNat n)) = !specials.elem (UInt8.ofNat n) := by decide +kernel
  have hc : UInt8.ofNat c.toNat = c := by simp
  rw [← hc]
  exact h _ c.toNat_lt

theorem refPart_ok (p : Pk) (first : Bool) (h : p.1 = false) : refPart p first = partOk p first := by
  obtain ⟨v, t, q⟩ := p
  simp only at h
  subst h
  unfold refPart partOk
  cases q with
  | true =>
    simp only [Bool.true_or, Bool.true_and, Bool.false_eq_true, if_false, if_true, Bool.not_true, Bool.and_false, Bool.false_and, Bool.not_false, Bool.and_true]
    have : (fun c => !badC true c) = fun c => !(c == 0) := by funext c; simp [badC]
    rw [this, Bool.eq_iff_iff]
    simp only [List.all_eq_true, Bool.not_eq_true', beq_eq_false_iff_ne, ne_eq, List.elem_eq_mem, decide_eq_false_iff_not]
    constructor
    · intro h hm; exact h 0 hm rfl
    · intro h c hc h0; subst h0; exact h hc
  | false =>
    simp only [Bool.false_or, Bool.false_eq_true, if_false, Bool.not_false, Bool.and_true]
    unfold plainL
    have : (fun c => !badC false c) = fun c => !specials.elem c := by funext c; exact bad_spec c
    rw [this]

theorem param_ne {l : List UInt8} (h : paramL l = true) : l.isEmpty = false := by
  cases l with
  | nil => simp [paramL, nameL] at h
  | cons b r => rfl

/-- what the next one holds against it -/
def lookO : Option Pk → List Pk → Bool
  | some q, p :: _ => !(!q.1 && q.2.2 && q.2.1.isEmpty && p.2.2)
  | _, _ => true

theorem step_eq (p : Pk) (pv : Option Pk) (nx : List Pk) (hv : ∀ q, pv = some q → q.1 = true → q.2.1.isEmpty = false) :
    (partOk p pv.isNone && !clashO pv p && lookO (some p) nx) = (lookO pv (p :: nx) && refOne p pv nx.head?) := by
  unfold refOne
  have hlook : lookO (some p) nx = !(!p.1 && p.2.2 && p.2.1.isEmpty && quotO nx.head?) := by
    cases nx with
    | nil => simp [lookO, quotO]
    | cons x xs => rfl
  rw [hlook]
  by_cases hp : p.1 = true
  · rw [if_pos hp]
    have hpo : partOk p pv.isNone = paramL p.2.1 := by unfold partOk; rw [if_pos hp]
    rw [hpo, hp]
    cases hpl : paramL p.2.1 with
    | false => simp
    | true =>
      have hne := param_ne hpl
      cases pv with
      | none => simp [clashO, lookO]
      | some q =>
        have hq := hv q rfl
        simp only [clashO, clash, lookO, hp, hne]
        obtain ⟨a, b, c⟩ := q
        obtain ⟨d, e, f⟩ := p
        simp only at hq ⊢
        generalize b.isEmpty = be at hq ⊢
        cases a <;> cases be <;> cases c <;> cases f <;> simp_all
  · have hpf : p.1 = false := by simpa using hp
    rw [if_neg hp, refPart_ok p _ hpf, hpf]
    generalize partOk p pv.isNone = ok
    cases pv with
    | none =>
      simp only [clashO, lookO, nearO, quotO]
      generalize p.2.1.isEmpty = pe
      generalize quotO nx.head? = qn
      generalize p.2.2 = pq
      cases ok <;> cases pe <;> cases qn <;> cases pq <;> rfl
    | some q =>
      have hq := hv q rfl
      simp only [clashO, clash, lookO, nearO, quotO, hpf]
      generalize p.2.1.isEmpty = pe
      generalize quotO nx.head? = qn
      generalize p.2.2 = pq
      generalize q.2.1.isEmpty = qe at hq ⊢
      generalize q.2.2 = qq
      generalize q.1 = qv at hq ⊢
      cases ok <;> cases pe <;> cases qn <;> cases pq <;> cases qe <;> cases qq <;> cases qv <;> simp_all

theorem chk_eq : ∀ (l : List Pk) (pv : Option Pk), (∀ q, pv = some q → q.1 = true → q.2.1.isEmpty = false) → chkP pv l = (lookO pv l && chkR pv l)
  | [], pv, _ => by cases pv <;> simp [chkP, chkR, lookO]
  | p :: r, pv, hv => by
    have hs := step_eq p pv r hv
    rw [chkP, chkR]
    by_cases hok : partOk p pv.isNone = true
    · have ih := chk_eq r (some p) (fun q hq hqv => by
        simp only [Option.some.injEq] at hq
        subst hq
        unfold partOk at hok
        rw [if_pos hqv] at hok
        exact param_ne hok)
      rw [ih]
      generalize chkR (some p) r = c at ih ⊢
      generalize lookO (some p) r = lk at hs ih ⊢
      rw [← Bool.and_assoc, hs, Bool.and_assoc]
    · have hf : partOk p pv.isNone = false := by simpa using hok
      rw [hf] at hs ⊢
      simp only [Bool.false_and] at hs ⊢
      rw [← Bool.and_assoc, ← hs]
      rfl

/-- the document's words that may be are the program's -/
theorem mayW_eq (l : List Pk) : mayW l = (!l.isEmpty && chkR none l) := by
  unfold mayW
  rw [chk_eq l none (fun q h => by cases h)]
  cases l <;> simp [lookO]
end Go.Sy

namespace Go.Vm
open Go Go.Proofs Go.Sy
attribute [local simp] Oks xOps vwanted isDefer vop kindOf vpure ev evs toV andThen inBlock atTo_some Fr.dsTo Fr.glTo Fr.toNone initFr_at initFr_ds initFr_gl veff traverse tupled vresult V.undef evOpt xDraw xStep

theorem vszs_pts (l : List Wp) : vszs (ptsV l) = l.length * 6 + 1 := by
  induction l with
  | nil => rfl
  | cons a l ih =>
    have e : ptsV (a :: l) = .bool a.v :: .str a.t :: .bool a.q :: ptsV l := rfl
    rw [e]
    simp only [vszs, vsz, ih, List.length_cons]
    omega
theorem Vp.small {st : St} {x : V} {l : List Wp} (h : Vp st x l) (hl : l.length < 1000000) : vsz x < 1000000000 := by
  cases h with
  | nils => simp [vsz]
  | sl l ex => simp only [vsz, vszs_pts]; omega
  | ms => simp [vsz]

/-- a word -/
def Wv (st : St) (w : V) (l : List Wp) : Prop := ∃ x a, w = .agg [x, .int .i64 a] ∧ Vp st x l
theorem Wv.keep {st st' : St} (hk : Keep st st') {w : V} {l : List Wp} (h : Wv st w l) : Wv st' w l := by
  obtain ⟨x, a, rfl, hv⟩ := h
  exact ⟨x, a, rfl, hv.keep hk⟩

theorem wf0 (id : Nat) : vfieldAddr Try.prog 31 (.ptr id 0) 0 = some (.ptr id 0) := by kernel_rfl
theorem wf1 (id : Nat) : vfieldAddr Try.prog 31 (.ptr id 0) 1 = some (.ptr id 1) := by kernel_rfl

theorem vbin_beql {kk : Bool} {a b : Bool} : vbin Try.prog kk .eql 4 (.bool a) (.bool b) = some (.bool (a == b)) := by
  simp only [vbin, viaSem, traverse, ofV]
  have h3 : unSem Try.prog (Op.equal 4 (.bool a) (.bool b)) = some (a == b) := by
    unfold Op.equal
    exact eq_bool (d := 9999) Try.underlying4
  have h4 : unSem Try.prog (do eqGuard .eql 4 (opK kk) (.tmp 0) (.bool a) (.bool b); binOp .eql 4 (.bool a) (.bool b)) = some (.bool (a == b)) := by
    simp only [unSem_bind_eq, eqGuard, binOp, h3]
    simp [unSem_bind_eq, unSem_pure]
  show (match unSem Try.prog (do eqGuard .eql 4 (opK kk) (.tmp 0) (.bool a) (.bool b); binOp .eql 4 (.bool a) (.bool b)) with
    | some v => toV 6 v
    | none => none) = _
  rw [h4]
  rfl

theorem key_get (l : List Wp) {i : Nat} (hi : i < l.length) : (l.map Wp.key)[i]? = some (l.getD i default).key := by
  rw [List.getElem?_map, List.getD_eq_getElem?_getD, List.getElem?_eq_getElem hi]; rfl

variable [Memo] [NY]

/-- word.Same -/
theorem wSame_ok (gl : Gl) (st : St) (w u : V) (l m : List Wp) (hx : Wv st w l) (hy : Wv st u m) (hl : l.length < 1000000) :
    ∃ v st', W Try.prog (.call gl 14 [w, u]) st = .call (.val v st') ∧ v = .bool (decide (l.map Wp.key = m.map Wp.key)) ∧ Keep st st' := by
  obtain ⟨x, a, rfl, hx⟩ := hx
  obtain ⟨y, b, rfl, hy⟩ := hy
  have hk23 : callable Try.prog 23 = true := by kernel_rfl
  have ox := hx.one
  have oy := hy.one
  have oi : ∀ k n, oneC (.int k n) = true := fun _ _ => rfl
  refine call_ex (NY.no _ rfl rfl _ _) Try.func14 rfl (by kernel_rfl) ?_
  repeat refine Does.seq ?_
  refine Does.region ?_
  simp [valloc, V.cells, ox, oy, oi, mkRef]
  have hk2 : Keep st { ctr := st.ctr + 1 + 1, box := (st.box.put st.ctr (.cells [x, .int .i64 a] 31 true (some 0))).put (st.ctr + 1) (.cells [y, .int .i64 b] 31 true (some 0)) } := ((Keep.refl st).new _).new _
  have b1 : ({ ctr := st.ctr + 1 + 1, box := (st.box.put st.ctr (.cells [x, .int .i64 a] 31 true (some 0))).put (st.ctr + 1) (.cells [y, .int .i64 b] 31 true (some 0)) } : St).box.get st.ctr = some (.cells [x, .int .i64 a] 31 true (some 0)) := by
    rw [Tr.get_put, if_neg (by omega), Tr.get_put, if_pos rfl]
  have b2 : ({ ctr := st.ctr + 1 + 1, box := (st.box.put st.ctr (.cells [x, .int .i64 a] 31 true (some 0))).put (st.ctr + 1) (.cells [y, .int .i64 b] 31 true (some 0)) } : St).box.get (st.ctr + 1) = some (.cells [y, .int .i64 b] 31 true (some 0)) := by
    rw [Tr.get_put, if_pos rfl]
  revert hk2 b1 b2
  generalize ({ ctr := st.ctr + 1 + 1, box := (st.box.put st.ctr (.cells [x, .int .i64 a] 31 true (some 0))).put (st.ctr + 1) (.cells [y, .int .i64 b] 31 true (some 0)) } : St) = st2
  intro hk2 b1 b2
  repeat refine Does.seq ?_
  refine Does.region ?_
  have l1 := vload_of (P := Try.prog) (off := 0) sa29 sz29 b1 rfl
  have l2 := vload_of (P := Try.prog) (off := 0) sa29 sz29 b2 rfl
  have f1 := wf0 st.ctr
  have f2 := wf0 (st.ctr + 1)
  obtain ⟨v, st3, hc, rfl, hk3⟩ := partsEqual_ok gl st2 x y l m (hx.keep hk2) (hy.keep hk2) (by omega)
  have hc := ihCall_W hc
  generalize decide (l.map Wp.key = m.map Wp.key) = r at hc
  simp [f1, f2, l1, l2, vcall_callable hk23, hc]
  refine Does.ret ?_
  simp [hk2.trans hk3]

/-- the document's Same -/
theorem rSame_ok (gl : Gl) (st : St) (w u : V) (l m : List Wp) (hx : Wv st w l) (hy : Wv st u m) (hl : l.length < 1000000) (hm : m.length < 1000000) :
    ∃ v st', W Try.prog (.call gl 16 [w, u]) st = .call (.val v st') ∧ v = .bool (decide (l.map Wp.key = m.map Wp.key)) ∧ Keep st st' := by
  obtain ⟨x, a, rfl, hx⟩ := hx
  obtain ⟨y, b, rfl, hy⟩ := hy
  have ox := hx.one
  have oy := hy.one
  have lx := hx.len
  have ly := hy.len
  have vx := veq_self x (hx.small hl)
  have vy := veq_self y (hy.small hm)
  have oi : ∀ k n, oneC (.int k n) = true := fun _ _ => rfl
  refine call_ex (NY.no _ rfl rfl _ _) Try.func16 rfl (by kernel_rfl) ?_
  repeat refine Does.seq ?_
  refine Does.region ?_
  simp [valloc, V.cells, ox, oy, oi, mkRef]
  have hk2 : Keep st { ctr := st.ctr + 1 + 1, box := (st.box.put st.ctr (.cells [x, .int .i64 a] 31 true (some 0))).put (st.ctr + 1) (.cells [y, .int .i64 b] 31 true (some 0)) } := ((Keep.refl st).new _).new _
  have b1 : ({ ctr := st.ctr + 1 + 1, box := (st.box.put st.ctr (.cells [x, .int .i64 a] 31 true (some 0))).put (st.ctr + 1) (.cells [y, .int .i64 b] 31 true (some 0)) } : St).box.get st.ctr = some (.cells [x, .int .i64 a] 31 true (some 0)) := by
    rw [Tr.get_put, if_neg (by omega), Tr.get_put, if_pos rfl]
  have b2 : ({ ctr := st.ctr + 1 + 1, box := (st.box.put st.ctr (.cells [x, .int .i64 a] 31 true (some 0))).put (st.ctr + 1) (.cells [y, .int .i64 b] 31 true (some 0)) } : St).box.get (st.ctr + 1) = some (.cells [y, .int .i64 b] 31 true (some 0)) := by
    rw [Tr.get_put, if_pos rfl]
  have hct : st.ctr + 1 < ({ ctr := st.ctr + 1 + 1, box := (st.box.put st.ctr (.cells [x, .int .i64 a] 31 true (some 0))).put (st.ctr + 1) (.cells [y, .int .i64 b] 31 true (some 0)) } : St).ctr := Nat.lt_succ_self _
  revert hk2 b1 b2 hct
  generalize ({ ctr := st.ctr + 1 + 1, box := (st.box.put st.ctr (.cells [x, .int .i64 a] 31 true (some 0))).put (st.ctr + 1) (.cells [y, .int .i64 b] 31 true (some 0)) } : St) = st2
  intro hk2 b1 b2 hct
  have f1 := wf0 st.ctr
  have f2 := wf0 (st.ctr + 1)
  have hx2 := hx.keep hk2
  have hy2 := hy.keep hk2
  have l1 := vload_of (P := Try.prog) (off := 0) sa29 sz29 b1 rfl
  have l2 := vload_of (P := Try.prog) (off := 0) sa29 sz29 b2 rfl
  have ne : ∀ kk, vbin Try.prog kk .neq 3 (.int .i64 (l.length : Int)) (.int .i64 (m.length : Int)) = some (.bool (!decide (l.length = m.length))) := fun kk => vI_neq rfl
  repeat refine Does.seq ?_
  refine Does.region ?_
  by_cases hlm : l.length = m.length
  rotate_left
  · rw [decide_eq_false hlm] at ne
    have hne : ¬ l.map Wp.key = m.map Wp.key := fun h => hlm (by simpa using congrArg List.length h)
    simp [f1, f2, l1, l2, lx, ly, ne]
    repeat refine Does.seq ?_
    refine Does.condT (by simp) ?_
    repeat refine Does.seq ?_
    refine Does.region ?_
    simp
    refine Does.ret ?_
    simp [hne, hk2]
  · rw [decide_eq_true hlm] at ne
    simp [f1, f2, l1, l2, lx, ly, ne]
    repeat refine Does.seq ?_
    refine Does.condF (by simp) ?_
    refine Does.skip ?_
    simp
    repeat refine Does.seq ?_
    refine Does.region ?_
    simp
    refine Does.mono (Q := fun e fr' st' => Keep st st' ∧ fr'.ds = [] ∧ ((e = AE.ret ∧ Fr.at fr' 4 = .bool false ∧ l.map Wp.key ≠ m.map Wp.key) ∨ (e = AE.normal ∧ l.map Wp.key = m.map Wp.key))) ?loop ?tail
    case tail =>
      rintro e fr' st' ⟨hk, hds, ⟨rfl, h4, hne⟩ | ⟨rfl, heq⟩⟩
      · simp [hds, hk, h4, hne]
      · simp
        repeat refine Does.seq ?_
        refine Does.region ?_
        simp
        refine Does.ret ?_
        simp [hds, hk, heq]
    case loop =>
      refine Does.block (Does.up l.length (fun i fr st' => Keep st2 st' ∧ fr.ds = [] ∧ Fr.at fr 2 = .ptr st.ctr 0 ∧ Fr.at fr 3 = .ptr (st.ctr + 1) 0 ∧ Fr.at fr 5 = .int .i64 (i : Int) ∧ i ≤ l.length ∧ (l.map Wp.key).take i = (m.map Wp.key).take i) 0 ?init ?bound ?step)
      case init => exact ⟨.refl st2, by simp, by simp, by simp, by simp, Nat.zero_le _, by simp⟩
      case bound => exact fun i fr st' h => h.2.2.2.2.2.1
      case step =>
        rintro i fr st' ⟨hk, hds, h2, h3, h5, hi, ht⟩
        have elen : ∀ kk, vbin Try.prog kk .lss 3 (.int .i64 (i : Int)) (.int .i64 (l.length : Int)) = some (.bool (decide (i < l.length))) := fun kk => vI_lss rfl
        have l1' := vload_of (P := Try.prog) (off := 0) sa29 sz29 (show st'.box.get st.ctr = _ by rw [hk.box _ (by omega)]; exact b1) rfl
        repeat refine Does.seq ?_
        refine Does.region ?_
        by_cases hlt : i < l.length
        · rw [decide_eq_true hlt] at elen
          simp [h2, h5, f1, l1', lx, elen]
          repeat refine Does.seq ?_
          refine Does.condT (by simp) ?_
          refine Does.skip ?_
          simp
          repeat refine Does.seq ?_
          refine Does.block ?_
          repeat refine Does.seq ?_
          refine Does.draw (b := [0, 1, 0, 7, 15, 0, 32, 0, 224, 480, 1023]) (l := [0, 1, 2, 3, 4, 5, 6, 7, 8, 9, 10]) (by kernel_rfl) (by kernel_rfl) (by kernel_rfl) ?_
          have hkt := hk.tick 11
          have m1 := vload_of (P := Try.prog) (off := 0) sa29 sz29 (show ({ ctr := st'.ctr + 11, box := st'.box } : St).box.get st.ctr = _ by rw [hkt.box _ (by omega)]; exact b1) rfl
          have m2 := vload_of (P := Try.prog) (off := 0) sa29 sz29 (show ({ ctr := st'.ctr + 11, box := st'.box } : St).box.get (st.ctr + 1) = _ by rw [hkt.box _ (by omega)]; exact b2) rfl
          obtain ⟨p, g1, g2⟩ := (hx2.keep hkt).get hlt
          obtain ⟨q, g3, g4⟩ := (hy2.keep hkt).get (show i < m.length by omega)
          have gx := key_get l hlt
          have gy := key_get m (show i < m.length by omega)
          generalize l.getD i default = ex at g2 gx
          generalize m.getD i default = ey at g4 gy
          have n1 := g2.loads.1
          have n2 := g4.loads.1
          have hne := part_neq false ex ey
          have v1 := veq_part ex
          have v2 := veq_part ey
          have i1 := g1 .i64
          have i2 := g3 .i64
          simp [sameIn, h2, h3, h5, f1, f2, m1, m2, vx, vy, i1, i2, n1, n2, v1, v2, isK, hne]
          repeat refine Does.seq ?_
          by_cases heq : ex.key = ey.key
          · refine Does.condF (by simp [heq]) ?_
            refine Does.skip ?_
            simp
            refine Does.region ?_
            have hw : IntKind.i64.wrap ((i : Int) + 1) = (i : Int) + 1 := wrap_i64 (by omega) (by omega)
            simp [h5, vbin_add, hw]
            refine ⟨i + 1, by omega, hkt, hds, h2, h3, by simp, by omega, ?_⟩
            rw [List.take_add_one, List.take_add_one, ht, gx, gy, heq]
          · refine Does.condT (by simp [heq]) ?_
            repeat refine Does.seq ?_
            refine Does.region ?_
            simp
            refine Does.ret ?_
            simp [hds, hk2.trans hkt]
            intro h
            rw [h, gy] at gx
            exact heq (Option.some.inj gx).symm
        · rw [decide_eq_false hlt] at elen
          simp [h2, h5, f1, l1', lx, elen]
          repeat refine Does.seq ?_
          refine Does.condF (by simp) ?_
          refine Does.exit ?_
          simp [hds, hk2.trans hk]
          rwa [List.take_of_length_le (by simp; omega), List.take_of_length_le (by simp; omega)] at ht
end Go.Vm
