/- Words: where a word ends, by the program and by the document. -/
import Derived.Test.YtedkiipdgffoaaaDoorLxC
namespace Go.Vm
open Go Go.Proofs Go.Lx
attribute [local simp] Oks xOps vwanted isDefer vop kindOf vpure ev evs toV andThen inBlock atTo_some Fr.dsTo Fr.glTo Fr.toNone initFr_at initFr_ds initFr_gl veff traverse tupled vresult V.undef evOpt xDraw xStep

theorem indexByte_eq (c : UInt8) : ∀ l : List UInt8, Lib.indexByte l c = if c ∈ l then ((l.takeWhile (· ≠ c)).length : Int) else -1
  | [] => rfl
  | b :: l => by
    rw [Lib.indexByte, indexByte_eq c l]
    by_cases h : b = c
    · subst h; simp
    · have h' : (b == c) = false := by simpa using h
      by_cases hm : c ∈ l
      · rw [h']
        have : ¬ ((List.takeWhile (fun x => decide (x ≠ c)) l).length : Int) = -1 := by omega
        simp only [Bool.false_eq_true, if_false, if_pos hm, List.mem_cons, hm, or_true, if_true, beq_iff_eq, this]
        rw [List.takeWhile_cons_of_pos (by simp [h])]
        simp
      · have h2 : ¬ c = b := fun h2 => h h2.symm
        simp [h', hm, h2]

theorem indexByte_ge (l : List UInt8) (c : UInt8) : (0 ≤ Lib.indexByte l c) ↔ c ∈ l := by
  rw [indexByte_eq]
  by_cases h : c ∈ l
  · simp [h]
  · simp [h]

def endz : S := S.ofList [32, 9, 10, 59, 38, 124, 60, 62, 40, 41]
theorem endz_ends (b : Nat) : (0 ≤ Lib.indexByte endz.toList b.toUInt8) ↔ endsL (UInt8.ofNat b) = true := by
  rw [indexByte_ge]
  have : endz.toList = [32, 9, 10, 59, 38, 124, 60, 62, 40, 41] := S.toList_ofList _
  rw [this]
  simp only [endsL, List.elem_eq_mem, decide_eq_true_eq]

theorem field0 (id : Nat) : vfieldAddr Tryd.prog 40 (.ptr id 0) 0 = some (.ptr id 0) := by kernel_rfl
theorem field1 (id : Nat) : vfieldAddr Tryd.prog 40 (.ptr id 0) 1 = some (.ptr id 1) := by kernel_rfl
theorem field2 (id : Nat) : vfieldAddr Tryd.prog 40 (.ptr id 0) 2 = some (.ptr id 2) := by kernel_rfl

/-- the cutter -/
def Cu (st : St) (id : Nat) (s : S) (at_ : Nat) (out : V) : Prop := st.box.get id = some (.cells [.str s, .int .i64 (at_ : Int), out] 40 true (some 0))

theorem Cu.l0 {st : St} {id : Nat} {s : S} {a : Nat} {out : V} (h : Cu st id s a out) : vload Tryd.prog st 9 (.ptr id 0) = some (.str s) := vload_of a9 z9 h rfl
theorem Cu.l1 {st : St} {id : Nat} {s : S} {a : Nat} {out : V} (h : Cu st id s a out) : vload Tryd.prog st 3 (.ptr id 1) = some (.int .i64 (a : Int)) := vload_of a3 z3 h rfl
theorem Cu.keep {st st' : St} (hk : Keep st st') {id : Nat} {s : S} {a : Nat} {out : V} (hid : id < st.ctr) (h : Cu st id s a out) : Cu st' id s a out := by
  unfold Cu; rw [hk.box id hid]; exact h

theorem addL_pair (n : Nat) (x : Nat × Bool) : addL n x = (n + x.1, x.2) := rfl

variable [Memo] [NL]

theorem word_ok (gl : Gl) (st : St) (id : Nat) (s : S) (a : Nat) (out : V) (hc : Cu st id s a out) (hid : id < st.ctr) (ha : a ≤ s.n) (hn : s.n < 1000000) :
    ∃ v st', W Tryd.prog (.call gl 26 [.ptr id 0]) st = .call (.val v st') ∧ v = .tup [.int .i64 ((a + (wordL (s.toList.drop a)).1 : Nat) : Int), .bool (wordL (s.toList.drop a)).2] ∧ Keep st st' := by
  have hk16 : callable Tryd.prog 16 = true := by kernel_rfl
  have hk29 : callable Tryd.prog 29 = true := by kernel_rfl
  have hlen := vlen_str Tryd.underlying9 (s := s)
  have f0 := field0 id
  have f1 := field1 id
  refine call_ex (NL.no _ rfl _ _) Tryd.func26 rfl (by kernel_rfl) ?_
  repeat refine Does.seq ?_
  refine Does.region ?_
  simp
  repeat refine Does.seq ?_
  refine Does.region ?_
  simp [f1, hc.l1]
  refine Does.mono (Q := fun e fr' st' => Keep st st' ∧ fr'.ds = [] ∧ ((e = AE.ret ∧ Fr.at fr' 2 = .int .i64 ((a + (wordL (s.toList.drop a)).1 : Nat) : Int) ∧ Fr.at fr' 3 = .bool (wordL (s.toList.drop a)).2) ∨ (e = AE.normal ∧ Fr.at fr' 0 = .ptr id 0 ∧ a + (wordL (s.toList.drop a)).1 = s.n ∧ (wordL (s.toList.drop a)).2 = true))) ?loop ?tail
  case tail =>
    rintro e fr' st' ⟨hk, hds, ⟨rfl, h2, h3⟩ | ⟨rfl, h0, hE, hok⟩⟩
    · simp at h2
      simp [hds, h2, h3, hk]
    · simp
      repeat refine Does.seq ?_
      refine Does.region ?_
      simp [h0, f0, (hc.keep hk hid).l0, hlen]
      refine Does.ret ?_
      simp [hds, hok, hk]
      omega
  case loop =>
    refine Does.block (Does.up (s.n + 1) (fun i fr st' => Keep st st' ∧ fr.ds = [] ∧ fr.gl = gl ∧ Fr.at fr 0 = .ptr id 0 ∧ Fr.at fr 4 = .int .i64 (i : Int) ∧ i ≤ s.n + 1 ∧
      ((i ≤ s.n ∧ i + (wordL (s.toList.drop i)).1 = a + (wordL (s.toList.drop a)).1 ∧ (wordL (s.toList.drop i)).2 = (wordL (s.toList.drop a)).2) ∨ (i = s.n + 1 ∧ a + (wordL (s.toList.drop a)).1 = s.n ∧ (wordL (s.toList.drop a)).2 = true))) a ?init ?bound ?step)
    case init => exact ⟨.refl st, by simp, by simp, by simp, by simp, by omega, .inl ⟨ha, rfl, rfl⟩⟩
    case bound => exact fun i fr st' h => h.2.2.2.2.2.1
    case step =>
      rintro i fr st' ⟨hk, hds, hgl, h0, h4, hi, hinv⟩
      have hcc := hc.keep hk hid
      have l0 := hcc.l0
      repeat refine Does.seq ?_
      refine Does.region ?_
      by_cases hlt : i < s.n
      · have hlt' : (i : Int) < (s.n : Int) := by omega
        obtain ⟨hle, hE, hok⟩ := hinv.resolve_right (by omega)
        clear hinv
        rw [s.drop_at hlt, wordL] at hE hok
        have hix := vindex_str (P := Tryd.prog) (k := .i64) Tryd.underlying9 hlt
        have hai := s.at_lt i
        simp [h0, h4, f0, l0, hlen, vbin_lss, hlt']
        repeat refine Does.seq ?_
        refine Does.condT (by simp) ?_
        refine Does.skip ?_
        simp
        repeat refine Does.seq ?_
        refine Does.block ?_
        repeat refine Does.seq ?_
        refine Does.region ?_
        simp [h0, h4, f0, l0, hix]
        refine Does.block ?_
        repeat refine Does.seq ?_
        refine Does.region ?_
        have w1 := wrap1 (i := i) (by omega)
        have w2 := wrap1 (i := i + 1) (by omega)
        simp at w1 w2
        by_cases h92 : s.at i = 92
        · have h92' : (s.at i : Int) = 92 := by omega
          have hb : UInt8.ofNat (s.at i) = 92 := by rw [h92]; rfl
          rw [if_pos hb] at hE hok
          simp [vbin_eql, h92']
          repeat refine Does.seq ?_
          refine Does.condT (by simp) ?_
          refine Does.region ?_
          simp [h4, vbin_add, w1]
          refine Does.region ?_
          simp [vbin_add, w2]
          refine ⟨i + 2, by omega, hk, hds, hgl, h0, by simp; omega, by omega, ?_⟩
          by_cases hend : i + 1 = s.n
          · have hnil : s.toList.drop (i + 1) = [] := by rw [List.drop_eq_nil_iff]; simp [hend]
            rw [if_pos hnil] at hE hok
            exact .inr ⟨by omega, by simp at hE; omega, hok.symm⟩
          · have hnil : ¬ s.toList.drop (i + 1) = [] := by rw [List.drop_eq_nil_iff]; simp; omega
            rw [if_neg hnil, List.drop_drop, addL_pair] at hE hok
            rw [show i + 1 + 1 = i + 2 from rfl] at hE hok
            exact .inl ⟨by omega, by omega, hok⟩
        · have h92' : ¬ (s.at i : Int) = 92 := by omega
          have hb : ¬ UInt8.ofNat (s.at i) = 92 := fun h => h92 ((byte_eq hai (by decide)).1 h)
          rw [if_neg hb] at hE hok
          simp [vbin_eql, h92']
          repeat refine Does.seq ?_
          refine Does.condF (by simp) ?_
          repeat refine Does.seq ?_
          refine Does.region ?_
          simp [vbin_eql]
          repeat refine Does.seq ?_
          refine Does.mono (Q := fun e fr' st'' => st'' = st' ∧ e = AE.normal ∧ fr'.ds = [] ∧ fr'.gl = gl ∧ Fr.at fr' 0 = .ptr id 0 ∧ Fr.at fr' 4 = .int .i64 (i : Int) ∧ Fr.at fr' 38 = .bool (decide (s.at i = 39 ∨ s.at i = 34))) ?qa ?qb
          case qa =>
            by_cases h39 : s.at i = 39
            · have h39' : (s.at i : Int) = 39 := by omega
              refine Does.condT (by simp [h39']) ?_
              refine Does.skip ?_
              simp [hds, hgl, h0, h4, h39]
            · have h39' : ¬ (s.at i : Int) = 39 := by omega
              refine Does.condF (by simp [h39']) ?_
              refine Does.region ?_
              by_cases h34 : s.at i = 34
              · have h34' : (s.at i : Int) = 34 := by omega
                simp [vbin_eql, hds, hgl, h0, h4, h34', h34]
              · have h34' : ¬ (s.at i : Int) = 34 := by omega
                simp [vbin_eql, hds, hgl, h0, h4, h34', h34, h39]
          case qb =>
          rintro e fr' st'' ⟨rfl, rfl, hds, hgl, h0, h4, h38⟩
          simp
          by_cases hq : s.at i = 39 ∨ s.at i = 34
          · have hqb : UInt8.ofNat (s.at i) = 39 ∨ UInt8.ofNat (s.at i) = 34 := by
              rcases hq with h | h <;> rw [h]
              · exact .inl rfl
              · exact .inr rfl
            rw [if_pos hqb] at hE hok
            refine Does.condT (by simp [h38, hq]) ?_
            repeat refine Does.seq ?_
            refine Does.region ?_
            have hsl := vslice_lo (P := Tryd.prog) (k := .i64) Tryd.underlying9 (s := s) (lo := i) (by omega)
            obtain ⟨v, st2, hcall, rfl, hk2⟩ := quoted_ok gl st'' (s.cut i s.n) (UInt8.ofNat (s.at i)) (s.toList.drop (i + 1)) (by rw [rest_toList s (by omega), s.drop_at hlt]) (by rw [rest_n]; omega)
            have hcall := ihCall_W hcall
            generalize hqq : quoteL (UInt8.ofNat (s.at i)) (s.toList.drop (i + 1)) = o at hE hok hcall
            simp [h0, h4, hgl, f0, l0, hsl, vcall_callable hk29, hcall]
            cases o with
            | none =>
              repeat refine Does.seq ?_
              refine Does.region ?_
              simp [opInt, vbin_lss]
              repeat refine Does.seq ?_
              refine Does.condT (by simp) ?_
              repeat refine Does.seq ?_
              refine Does.region ?_
              simp [h4]
              refine Does.ret ?_
              simp at hE hok
              simp [hds, hk.trans hk2, ← hok]
              omega
            | some m =>
              have hm := quoteL_lt _ _ _ (Nat.le_refl _) m hqq
              simp at hm
              have hneg : ¬ ((m : Int) + 1 < 0) := by omega
              repeat refine Does.seq ?_
              refine Does.region ?_
              simp [opInt, vbin_lss, hneg]
              repeat refine Does.seq ?_
              refine Does.condF (by simp) ?_
              refine Does.skip ?_
              simp
              refine Does.region ?_
              have w3 : IntKind.i64.wrap ((i : Int) + ((m : Int) + 1)) = (i : Int) + ((m : Int) + 1) := wrap_i64 (by omega) (by omega)
              have w4 : IntKind.i64.wrap ((i : Int) + ((m : Int) + 1) + 1) = (i : Int) + ((m : Int) + 1) + 1 := wrap_i64 (by omega) (by omega)
              simp [h4, vbin_add, w3]
              refine Does.region ?_
              simp [vbin_add, w4]
              simp only [addL_pair, List.drop_drop] at hE hok
              rw [show i + 1 + (m + 1) = i + m + 2 by omega] at hE hok
              exact ⟨i + m + 2, by omega, hk.trans hk2, hds, hgl, h0, by simp; omega, by omega, .inl ⟨by omega, by omega, hok⟩⟩
          · have hqb : ¬ (UInt8.ofNat (s.at i) = 39 ∨ UInt8.ofNat (s.at i) = 34) := by
              rintro (h | h)
              · exact hq (.inl ((byte_eq hai (by decide)).1 h))
              · exact hq (.inr ((byte_eq hai (by decide)).1 h))
            rw [if_neg hqb] at hE hok
            refine Does.condF (by simp [h38, hq]) ?_
            repeat refine Does.seq ?_
            refine Does.region ?_
            have hca := ihCall_W (strings_index gl st'' endz (s.at i))
            have hez := endz_ends (s.at i)
            unfold endz at hca
            generalize hres : Lib.indexByte (S.ofList [32, 9, 10, 59, 38, 124, 60, 62, 40, 41]).toList (s.at i).toUInt8 = w at hca
            have hez : 0 ≤ w ↔ endsL (UInt8.ofNat (s.at i)) = true := by rw [← hres]; exact hez
            simp [h0, h4, hgl, f0, l0, hix, vcall_callable hk16, hca, vbin_geq]
            repeat refine Does.seq ?_
            by_cases he : endsL (UInt8.ofNat (s.at i)) = true
            · rw [if_pos he] at hE hok
              refine Does.condT (by simp [hez.2 he]) ?_
              repeat refine Does.seq ?_
              refine Does.region ?_
              simp [h4]
              refine Does.ret ?_
              simp at hE hok
              simp [hds, hk, ← hok]
              omega
            · rw [if_neg he] at hE hok
              refine Does.condF (by simpa using fun h => he (hez.1 h)) ?_
              refine Does.skip ?_
              simp
              refine Does.region ?_
              simp [h4, vbin_add, w1]
              simp only [addL_pair] at hE hok
              exact ⟨i + 1, by omega, hk, hds, hgl, h0, by simp, by omega, .inl ⟨by omega, by omega, hok⟩⟩
      · have hlt' : ¬ (i : Int) < (s.n : Int) := by omega
        simp [h0, h4, f0, l0, hlen, vbin_lss, hlt']
        repeat refine Does.seq ?_
        refine Does.condF (by simp) ?_
        refine Does.exit ?_
        simp [hds, hk, h0]
        rcases hinv with ⟨_, h1, h2⟩ | ⟨_, h⟩
        · rw [List.drop_eq_nil_of_le (by simp; omega)] at h1 h2
          simp [wordL] at h1 h2
          exact ⟨by omega, h2⟩
        · exact h
end Go.Vm
