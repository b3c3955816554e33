/- touchstoneref11.Parse does what the document says, by the evaluator's equations. Conditions: fewer than 5000 words, each below 5000 bytes; the known letters are 1000 at most. -/
import Derived.Test.YtajfpccgknoafaaOptA
namespace Go.Vm
open Go Go.Proofs
attribute [local simp] Oks xOps vwanted isDefer vop kindOf vpure ev evs toV andThen inBlock atTo_some Fr.dsTo Fr.glTo Fr.toNone initFr_at initFr_ds initFr_gl veff traverse tupled vresult V.undef
attribute [local instance] Memo.none

/-! ## what is said of words -/
def lettersOk (kn : S) : Prop := ∀ i, i < kn.n → isLetter (kn.at i) = true
def isOpt (w : S) : Bool := decide (2 ≤ w.n) && decide (w.at 0 = 45)
def dashes : S := S.ofList [45, 45]
def known (kn w : S) : Bool := (w.toList.drop 1).all fun b => decide (b ∈ kn.toList)

def scan (kn : S) : List S → List UInt8 → Option (List UInt8 × List S)
  | [], t => some (t, [])
  | w :: r, t => if isOpt w = true then (if w.same dashes = true then some (t, r) else if known kn w = true then scan kn r (t ++ w.toList.drop 1) else none) else some (t, w :: r)

def setFrom (t : List UInt8) : Nat → Nat → List UInt8
  | _, 0 => []
  | c, n + 1 => (if UInt8.ofNat c ∈ t then [UInt8.ofNat c] else []) ++ setFrom t (c + 1) n
def setOf (t : List UInt8) : List UInt8 := setFrom t 0 256

open Classical in
/-- the letters told, the operands, the error -/
noncomputable def parseS (kn : S) (l : List S) (least most : Int) : List UInt8 × List S × Nat :=
  if least < 0 ∨ most < least ∨ ¬ lettersOk kn then ([], [], 1) else
    match scan kn l [] with
    | none => ([], [], 62)
    | some (t, r) => if (r.length : Int) < least ∨ most < (r.length : Int) then ([], [], 62) else (setOf t, r, 0)

theorem parseS_bad {kn : S} {l : List S} {least most : Int} (h : least < 0 ∨ most < least ∨ ¬ lettersOk kn) : parseS kn l least most = ([], [], 1) := by
  unfold parseS; rw [if_pos h]
theorem parseS_none {kn : S} {l : List S} {least most : Int} (h : ¬ (least < 0 ∨ most < least ∨ ¬ lettersOk kn)) (hs : scan kn l [] = none) : parseS kn l least most = ([], [], 62) := by
  unfold parseS; rw [if_neg h, hs]
theorem parseS_many {kn : S} {l r : List S} {t : List UInt8} {least most : Int} (h : ¬ (least < 0 ∨ most < least ∨ ¬ lettersOk kn)) (hs : scan kn l [] = some (t, r)) (hr : (r.length : Int) < least ∨ most < (r.length : Int)) : parseS kn l least most = ([], [], 62) := by
  unfold parseS; rw [if_neg h, hs]; simp only [hr, if_true]
theorem parseS_ok {kn : S} {l r : List S} {t : List UInt8} {least most : Int} (h : ¬ (least < 0 ∨ most < least ∨ ¬ lettersOk kn)) (hs : scan kn l [] = some (t, r)) (hr : ¬ ((r.length : Int) < least ∨ most < (r.length : Int))) : parseS kn l least most = (setOf t, r, 0) := by
  unfold parseS; rw [if_neg h, hs]; simp only [hr, if_false]

theorem setFrom_step (t : List UInt8) {c n : Nat} : setFrom t c (n + 1) = (if UInt8.ofNat c ∈ t then [UInt8.ofNat c] else []) ++ setFrom t (c + 1) n := rfl

theorem vbin_sadd {P : Program} {kk : Bool} {T : TypeId} {a b : S} (h : a.n + b.n ≤ maxStr) : vbin P kk .add T (.str a) (.str b) = some (.str (a.app b)) := by
  have : Nat.ble (Nat.add a.n b.n) maxStr = true := Nat.ble_eq_true_of_le h
  simp only [vbin, this]

theorem vslice_str {P : Program} {T : TypeId} {k k' : IntKind} (hT : P.underlying T = some .string) {s : S} {lo hi : Nat} (h1 : lo ≤ hi) (h2 : hi ≤ s.n) : vslice P T (.str s) (some (.int k (lo : Int))) (some (.int k' (hi : Int))) = some (.str (s.cut lo hi)) := by
  have e1 : Nat.ble lo hi = true := Nat.ble_eq_true_of_le h1
  have e2 : Nat.ble hi s.n = true := Nat.ble_eq_true_of_le h2
  simp only [vslice, hT, bound, asNat_cast, e1, e2]
  rfl

theorem cut_one (s : S) {i : Nat} (h : i < s.n) : (s.cut i (i + 1)).toList = [UInt8.ofNat (s.at i)] := by
  rw [S.toList_cut s (by omega) (by omega), S.drop_at s h]
  simp

theorem conv_byte (st : St) (c : Nat) (hc : c < 256) : vconv Try.prog st 3 5 (.int .i64 (c : Int)) = some (.int .u8 (c : Int)) := by
  have h : vconv Try.prog st 3 5 (.int .i64 (c : Int)) = viaSem Try.prog (fun l => convert 3 5 (l.getD 0 undef)) [.int .i64 (c : Int)] := by
    simp only [vconv, Try.underlying3, Try.underlying5]
  rw [h]
  have hw : IntKind.u8.wrap (c : Int) = (c : Int) := wrap_small (k := .u8) hc
  have h2 : unSem Try.prog (convert 3 5 (Value.int IntKind.i64 (c : Int))) = some (.int .u8 (IntKind.u8.wrap (c : Int))) := by
    rfl
  simp only [viaSem, traverse, ofV]
  show (match unSem Try.prog (convert 3 5 (Value.int IntKind.i64 (c : Int))) with
    | some v => toV 6 v
    | none => none) = _
  rw [h2, hw]
  rfl

theorem bytes_one (c : Nat) : vbuildSlice Try.prog 40 1 [(0, .int .u8 (c : Int))] = some ([.int .u8 (c : Int)], 5, 1) := by
  have h : ∀ n : Int, vbuildSlice Try.prog 40 1 [(0, .int .u8 n)] = some ([.int .u8 n], 5, 1) := fun n => by kernel_rfl
  exact h _
theorem ofList_toList (l : List UInt8) : (S.ofList l).toList = l := dec_enc l
theorem oneC_int (k : IntKind) (n : Int) : oneC (.int k n) = true := rfl
theorem conv_str (st : St) (id c : Nat) (hb : st.box.get id = some (.cells [.int .u8 (c : Int)] 5 true (some 0))) : vconv Try.prog st 40 9 (.ms id 0 1 1 (some 1)) = some (.str (S.ofList [UInt8.ofNat c])) := by
  have h1 : sliceCells st 1 (.ms id 0 1 1 (some 1)) = some ([.int .u8 (c : Int)], 1) := by simp [sliceCells, hb, sub]
  have h2 : bytesOf [.int .u8 (c : Int)] = some [UInt8.ofNat c] := by simp [bytesOf]
  simp only [vconv, Try.underlying40, Try.underlying9, Try.underlying5, h1, h2]

/-- what is handed back -/
def RefR (st : St) (p : List UInt8 × List S × Nat) (v : V) (st' : St) : Prop := Keep st st' ∧ ∃ s y, v = .tup [.str s, y, .int .i64 (p.2.2 : Int)] ∧ s.toList = p.1 ∧ Vw st' y p.2.1 ∧ oneC y = true

theorem ref_ok (gl : Gl) (st : St) (kn : S) (x : V) (l : List S) (least most : Int) (hx : Vw st x l) (hl : l.length < 5000) (hw : ∀ s ∈ l, s.n < 5000) (hkn : kn.n ≤ 1000) :
    ∃ v st', W Try.prog (.call gl 13 [.str kn, x, .int .i64 least, .int .i64 most]) st = .call (.val v st') ∧ RefR st (parseS kn l least most) v st' := by
  have hx0 := hx.len u22
  have hkl := vlen_str Try.underlying9 (s := kn)
  have hk18 : callable Try.prog 18 = true := by kernel_rfl
  refine call_ex rfl Try.func13 rfl (by kernel_rfl) ?_
  refine Does.seq (Does.region ?_)
  simp
  refine Does.seq (Does.seq (Does.region ?_))
  -- the numbers
  by_cases hnum : least < 0 ∨ most < least
  · have hb : (decide (least < 0) = true) ∨ (decide (least < 0) = false ∧ decide (most < least) = true) := by
      by_cases h : least < 0
      · exact .inl (decide_eq_true h)
      · exact .inr ⟨decide_eq_false h, decide_eq_true (by rcases hnum with h' | h'; exact absurd h' h; exact h')⟩
    have hp : parseS kn l least most = ([], [], 1) := by
      unfold parseS
      rw [if_pos (by rcases hnum with h | h; exact .inl h; exact .inr (.inl h))]
    rcases hb with h1 | ⟨h1, h2⟩
    · simp [vbin_lss, h1]
      refine Does.condT (by simp) ?_
      refine Does.seq (Does.region ?_)
      simp
      refine Does.ret ?_
      simp
      rw [hp]; exact ⟨.refl st, S.ofList [], .nils, rfl, rfl, .nils, rfl⟩
    · simp [vbin_lss, h1, h2]
      refine Does.condT (by simp) ?_
      refine Does.seq (Does.region ?_)
      simp
      refine Does.ret ?_
      simp
      rw [hp]; exact ⟨.refl st, S.ofList [], .nils, rfl, rfl, .nils, rfl⟩
  · have h1 : decide (least < 0) = false := decide_eq_false fun h => hnum (.inl h)
    have h2 : decide (most < least) = false := decide_eq_false fun h => hnum (.inr h)
    simp [vbin_lss, h1, h2]
    refine Does.condF (by simp) ?_
    refine Does.skip ?_
    simp
    -- the letters
    refine Does.seq (Does.mono (Q := fun e fr' st' => st' = st ∧ fr'.ds = [] ∧ fr'.gl = gl ∧ ((e = AE.normal ∧ lettersOk kn ∧ Fr.at fr' 0 = .str kn ∧ Fr.at fr' 1 = x ∧ Fr.at fr' 2 = .int .i64 least ∧ Fr.at fr' 3 = .int .i64 most) ∨
      (e = AE.ret ∧ ¬ lettersOk kn ∧ Fr.at fr' 8 = .str (S.ofList []) ∧ Fr.at fr' 9 = .nils ∧ Fr.at fr' 10 = .int .i64 1))) ?loop ?tail)
    case loop =>
      refine Does.seq (Does.region ?_)
      simp
      refine Does.block (Does.inv (fun k fr st' => st' = st ∧ fr.ds = [] ∧ fr.gl = gl ∧ k ≤ kn.n ∧ Fr.at fr 0 = .str kn ∧ Fr.at fr 1 = x ∧ Fr.at fr 2 = .int .i64 least ∧ Fr.at fr 3 = .int .i64 most ∧ Fr.at fr 11 = .int .i64 ((kn.n - k : Nat) : Int) ∧
        ∀ i, i < kn.n - k → isLetter (kn.at i) = true) kn.n ?init ?step)
      case init => exact ⟨rfl, by simp, by simp, Nat.le_refl _, by simp, by simp, by simp, by simp, by simp, fun i hi => by omega⟩
      case step =>
        rintro k fr st' ⟨rfl, hds, hgl, hk, f0, f1, f2, f3, f11, hlt⟩
        refine Does.seq (Does.seq (Does.region ?_))
        simp [f0, f11, hkl, vbin_lss]
        refine Does.cond (c := decide (kn.n - k < kn.n)) (by simp) (fun hc => ?_) (fun hc => ?_)
        · have hc : kn.n - k < kn.n := of_decide_eq_true hc
          have hix := vindex_str (k := .i64) Try.underlying9 (s := kn) hc
          refine Does.skip ?_
          simp
          refine Does.seq (Does.block (Does.seq (Does.region ?_)))
          simp [f0, f11, hix]
          refine Does.seq (Does.region ?_)
          generalize hcc : kn.at (kn.n - k) = c at hix
          have e1 : (decide ((c : Int) ≥ 97)) = decide (97 ≤ c) := by simp only [ge_iff_le]; congr 1; simp; omega
          have e2 : (decide ((c : Int) ≤ 122)) = decide (c ≤ 122) := by congr 1; simp; omega
          have e3 : (decide ((c : Int) ≥ 65)) = decide (65 ≤ c) := by simp only [ge_iff_le]; congr 1; simp; omega
          have e4 : (decide ((c : Int) ≤ 90)) = decide (c ≤ 90) := by congr 1; simp; omega
          cases g1 : decide (97 ≤ c) <;> cases g2 : decide (c ≤ 122) <;> cases g3 : decide (65 ≤ c) <;> cases g4 : decide (c ≤ 90) <;>
            (have hil : isLetter c = ((decide (97 ≤ c) && decide (c ≤ 122)) || (decide (65 ≤ c) && decide (c ≤ 90))) := rfl
             rw [g1, g2, g3, g4] at hil
             simp [vbin_geq, vbin_leq, e1, e2, e3, e4, g1, g2, g3, g4]
             first
               | (refine Does.condF (by simp) ?_
                  refine Does.skip ?_
                  simp
                  refine Does.region ?_
                  simp [f11, vbin_add]
                  refine ⟨k - 1, by omega, hds, hgl, by omega, f0, f1, f2, f3, ?_, fun i hi => ?_⟩
                  · rw [wrap_i64 (by omega) (by omega)]; omega
                  · by_cases hik : i = kn.n - k
                    · subst hik; rw [hcc, hil]; rfl
                    · exact hlt i (by omega))
               | (refine Does.condT (by simp) ?_
                  refine Does.seq (Does.region ?_)
                  simp
                  refine Does.ret ?_
                  simp
                  exact ⟨hds, hgl, fun h => by have := h (kn.n - k) hc; rw [hcc, hil] at this; cases this⟩))
        · have hc : ¬ kn.n - k < kn.n := of_decide_eq_false hc
          refine Does.exit ?_
          simp
          exact ⟨hds, hgl, fun i hi => hlt i (by omega), f0, f1, f2, f3⟩
    case tail =>
      rintro e fr st0 ⟨rfl, hds, hgl, ⟨rfl, hok, f0, f1, f2, f3⟩ | ⟨rfl, hno, f8, f9, f10⟩⟩
      · have hgo : ¬ (least < 0 ∨ most < least ∨ ¬ lettersOk kn) := by
          rintro (h | h | h)
          · exact hnum (.inl h)
          · exact hnum (.inr h)
          · exact h hok
        simp
        refine Does.seq (Does.region ?_)
        simp
        refine Does.seq (Does.region ?_)
        simp
        -- the words
        refine Does.seq (Does.mono (Q := fun e fr' st' => st' = st0 ∧ fr'.ds = [] ∧ fr'.gl = gl ∧ ((e = AE.normal ∧ Fr.at fr' 1 = x ∧ Fr.at fr' 2 = .int .i64 least ∧ Fr.at fr' 3 = .int .i64 most ∧
            ∃ i t, i ≤ l.length ∧ Fr.at fr' 14 = .int .i64 ((i : Nat) : Int) ∧ Fr.at fr' 13 = .str t ∧ scan kn l [] = some (t.toList, l.drop i) ∧ t.n ≤ 5000 * l.length) ∨
          (e = AE.ret ∧ scan kn l [] = none ∧ Fr.at fr' 8 = .str (S.ofList []) ∧ Fr.at fr' 9 = .nils ∧ Fr.at fr' 10 = .int .i64 62))) ?wloop ?wtail)
        case wtail =>
          rintro e fr st1 ⟨rfl, hds, hgl, ⟨rfl, f1, f2, f3, i, t, hi, f14, f13, hscan, htn⟩ | ⟨rfl, hscan, f8, f9, f10⟩⟩
          · simp
            refine Does.seq (Does.region ?_)
            have w17 : IntKind.i64.wrap (((l.length : Nat) : Int) - (i : Int)) = ((l.length : Nat) : Int) - (i : Int) := wrap_i64 (by omega) (by omega)
            simp [f1, f14, hx0, vbin_sub, w17]
            have hrl : (((l.drop i).length : Nat) : Int) = ((l.length : Nat) : Int) - (i : Int) := by rw [List.length_drop]; omega
            refine Does.seq (Does.seq (Does.region ?_))
            by_cases hnum2 : ((l.drop i).length : Int) < least ∨ most < ((l.drop i).length : Int)
            · have hp := parseS_many hgo hscan hnum2
              rw [hrl] at hnum2
              cases g1 : decide (((l.length : Nat) : Int) - (i : Int) < least)
              · have g2 : decide (((l.length : Nat) : Int) - (i : Int) > most) = true := decide_eq_true (by rcases hnum2 with h | h; exact absurd h (of_decide_eq_false g1); exact h)
                simp [f2, f3, vbin_lss, vbin_gtr, g1, g2]
                have g3 : most < ((l.length : Nat) : Int) - (i : Int) := of_decide_eq_true g2
                refine Does.condT (by simp [g3]) ?_
                refine Does.seq (Does.region ?_)
                simp
                refine Does.ret ?_
                simp [hds]
                rw [hp]; exact ⟨.refl _, S.ofList [], .nils, rfl, rfl, .nils, rfl⟩
              · simp [f2, vbin_lss, g1]
                refine Does.condT (by simp) ?_
                refine Does.seq (Does.region ?_)
                simp
                refine Does.ret ?_
                simp [hds]
                rw [hp]; exact ⟨.refl _, S.ofList [], .nils, rfl, rfl, .nils, rfl⟩
            · have hp := parseS_ok hgo hscan hnum2
              rw [hrl] at hnum2
              have g1 : decide (((l.length : Nat) : Int) - (i : Int) < least) = false := decide_eq_false fun h => hnum2 (.inl h)
              have g2 : decide (((l.length : Nat) : Int) - (i : Int) > most) = false := decide_eq_false fun h => hnum2 (.inr h)
              have g3 : ¬ most < ((l.length : Nat) : Int) - (i : Int) := fun h => hnum2 (.inr h)
              simp [f2, f3, vbin_lss, vbin_gtr, g1, g2]
              refine Does.condF (by simp [g3]) ?_
              refine Does.skip ?_
              simp
              refine Does.seq (Does.region ?_)
              simp
              -- the letters told, in their row
              refine Does.seq (Does.mono (Q := fun e fr2 st2 => e = AE.normal ∧ Keep st1 st2 ∧ fr2.ds = [] ∧ Fr.at fr2 1 = x ∧ Fr.at fr2 14 = .int .i64 (i : Int) ∧ ∃ s2, Fr.at fr2 18 = .str s2 ∧ s2.toList = setOf t.toList) ?sloop ?stail)
              case sloop =>
                refine Does.seq (Does.region ?_)
                simp
                refine Does.block (Does.inv (fun k fr2 st2 => Keep st1 st2 ∧ fr2.ds = [] ∧ fr2.gl = gl ∧ k ≤ 256 ∧ Fr.at fr2 1 = x ∧ Fr.at fr2 13 = .str t ∧ Fr.at fr2 14 = .int .i64 (i : Int) ∧ Fr.at fr2 19 = .int .i64 ((256 - k : Nat) : Int) ∧
                  ∃ s2, Fr.at fr2 18 = .str s2 ∧ s2.toList ++ setFrom t.toList (256 - k) k = setOf t.toList ∧ s2.n ≤ 256 - k) 256 ?sinit ?sstep)
                case sinit => exact ⟨.refl _, by simp [hds], by simp [hgl], Nat.le_refl _, by simp [f1], by simp [f13], by simp [f14], by simp, S.ofList [], by simp, by simp <;> rfl, by exact Nat.zero_le _⟩
                case sstep =>
                  rintro k fr2 st2 ⟨hkp, hds, hgl, hk, f1, f13, f14, f19, s2, f18, hs2, hsn⟩
                  refine Does.seq (Does.seq (Does.region ?_))
                  have h256 : decide (((256 - k : Nat) : Int) < 256) = decide (256 - k < 256) := by congr 1; simp; omega
                  simp [f19, vbin_lss]
                  refine Does.cond (c := decide (256 - k < 256)) (by rw [← h256]; simp) (fun hc => ?_) (fun hc => ?_)
                  · have hc : 256 - k < 256 := of_decide_eq_true hc
                    have hcb := conv_byte st2 (256 - k) hc
                    have hca := ihCall_W (has_ok gl st2 t (256 - k) (by omega) hc)
                    have w19 : IntKind.i64.wrap (((256 - k : Nat) : Int) + 1) = ((256 - k : Nat) : Int) + 1 := wrap_i64 (by omega) (by omega)
                    have hset : setFrom t.toList (256 - k) k = (if UInt8.ofNat (256 - k) ∈ t.toList then [UInt8.ofNat (256 - k)] else []) ++ setFrom t.toList (256 - (k - 1)) (k - 1) := by
                      obtain ⟨j, rfl⟩ : ∃ j, k = j + 1 := ⟨k - 1, by omega⟩
                      rw [setFrom_step, show 256 - (j + 1) + 1 = 256 - (j + 1 - 1) by omega]
                      rfl
                    have hkr : kindOf Try.prog (.convert 3 5 (.tmp 108)) = .r := by kernel_rfl
                    have hkr2 : kindOf Try.prog (.convert 3 5 (.tmp 112)) = .r := by kernel_rfl
                    have hkr3 : kindOf Try.prog (.convert 40 9 (.tmp 114)) = .r := by kernel_rfl
                    refine Does.skip ?_
                    simp
                    refine Does.seq (Does.block (Does.seq (Does.region ?_)))
                    simp only [kindOf] at hkr hkr2 hkr3
                    simp [f13, f19, hgl, hkr, hcb, vcall_callable hk18, hca]
                    by_cases hmem : UInt8.ofNat (256 - k) ∈ t.toList
                    · refine Does.condT (by simp [hmem]) ?_
                      refine Does.region ?_
                      have hbs := bytes_one (256 - k)
                      let st3 : St := { ctr := st2.ctr + 1, box := st2.box.put st2.ctr (.cells [.int .u8 ((256 - k : Nat) : Int)] 5 true (some 0)) }
                      have hk3 : Keep st2 st3 := (Keep.refl st2).new _
                      have hcs : vconv Try.prog st3 40 9 (.ms st2.ctr 0 1 1 (some 1)) = some (.str (S.ofList [UInt8.ofNat (256 - k)])) :=
                        conv_str st3 st2.ctr (256 - k) (by simp [st3, Tr.get_put])
                      have had : ∀ kk, vbin Try.prog kk .add 9 (.str s2) (.str (S.ofList [UInt8.ofNat (256 - k)])) = some (.str (s2.app (S.ofList [UInt8.ofNat (256 - k)]))) := fun kk => vbin_sadd (by show s2.n + 1 ≤ maxStr; simp only [maxStr]; omega)
                      simp only [st3] at hcs
                      simp [f18, f19, hkr2, hkr3, hcb, valloc, mkRef, evParts, hbs, hcs, had, oneC_int]
                      refine Does.region ?_
                      simp [f19, vbin_add, w19]
                      refine ⟨k - 1, by omega, hkp.trans hk3, hds, hgl, by omega, f1, f13, f14, by omega, ?_, ?_⟩
                      · rw [← hs2, hset, if_pos hmem, S.toList_app, ofList_toList, List.append_assoc]
                      · show s2.n + 1 ≤ _; omega
                    · refine Does.condF (by simp [hmem]) ?_
                      refine Does.skip ?_
                      simp
                      refine Does.region ?_
                      simp [f19, vbin_add, w19]
                      refine ⟨k - 1, by omega, hkp, hds, hgl, by omega, f1, f13, f14, by omega, s2, f18, ?_, by omega⟩
                      rw [← hs2, hset, if_neg hmem]; rfl
                  · have hc : ¬ 256 - k < 256 := of_decide_eq_false hc
                    have hk0 : k = 0 := by omega
                    subst hk0
                    refine Does.exit ?_
                    simp
                    exact ⟨hkp, hds, f1, f14, s2, f18, by simpa [setFrom] using hs2⟩
              case stail =>
                rintro e fr2 st2 ⟨rfl, hkp, hds, f1, f14, s2, f18, hs2⟩
                simp
                refine Does.seq (Does.region ?_)
                have hbs : vbuildSlice Try.prog 22 0 [] = some ([], 9, 1) := by kernel_rfl
                have hu : Try.prog.underlying 22 = some (.slice 9) := u22
                obtain ⟨y, hy1, hy2⟩ := (hx.keep hkp).tail u22 z9 hi (k := .i64)
                let st3 : St := { ctr := st2.ctr + 1, box := st2.box.put st2.ctr (.cells [] 9 true (some 0)) }
                have hk3 : Keep st2 st3 := (Keep.refl st2).new _
                obtain ⟨z, st4, ha, hk4, hv, hz⟩ := Vw.copy u22 i9 rfl zv9 rfl (hy2.keep hk3) (by show (l.drop i).length * 16 ≤ maxBytes; simp [maxBytes]; omega) (by simp [maxBytes]; omega) (id := st2.ctr) (e0 := 9) (fl := true) (by show st2.ctr < st2.ctr + 1; omega) (by simp [st3, Tr.get_put])
                simp only [st3] at ha
                simp [f1, f14, f18, valloc, mkRef, evParts, evOpt, hbs, vact, hu, hy1, ha]
                refine Does.ret ?_
                simp [hds]
                rw [hp]
                exact ⟨(hkp.trans hk3).trans hk4, s2, z, rfl, hs2, hv, by rcases hz with ⟨_, rfl, _⟩ | ⟨_, rfl, _⟩ <;> rfl⟩
          · have hp := parseS_none hgo hscan
            simp [hds, f8, f9, f10]
            rw [hp]; exact ⟨.refl _, S.ofList [], .nils, rfl, rfl, .nils, rfl⟩
        case wloop =>
          refine Does.block (Does.inv (fun k fr st' => st' = st0 ∧ fr.ds = [] ∧ fr.gl = gl ∧ k ≤ l.length ∧ Fr.at fr 0 = .str kn ∧ Fr.at fr 1 = x ∧ Fr.at fr 2 = .int .i64 least ∧ Fr.at fr 3 = .int .i64 most ∧ Fr.at fr 14 = .int .i64 ((l.length - k : Nat) : Int) ∧
            ∃ t, Fr.at fr 13 = .str t ∧ scan kn l [] = scan kn (l.drop (l.length - k)) t.toList ∧ t.n ≤ 5000 * (l.length - k)) l.length ?winit ?wstep)
          case winit => exact ⟨rfl, by simp [hds], by simp [hgl], Nat.le_refl _, by simp [f0], by simp [f1], by simp [f2], by simp [f3], by simp, S.ofList [], by simp, by simp <;> rfl, by exact Nat.zero_le _⟩
          case wstep =>
            rintro k fr st' ⟨rfl, hds, hgl, hk, f0, f1, f2, f3, f14, t, f13, hscan, htn⟩
            refine Does.seq (Does.seq (Does.region ?_))
            simp [f1, f14, hx0, vbin_lss]
            refine Does.cond (c := decide (l.length - k < l.length)) (by simp) (fun hc => ?_) (fun hc => ?_)
            · have hc : l.length - k < l.length := of_decide_eq_true hc
              obtain ⟨p, g1, g2⟩ := hx.get u22 z9 a9 hc (k := .i64)
              have hdrop : l.drop (l.length - k) = (l.getD (l.length - k) ⟨0, 0⟩) :: l.drop (l.length - k + 1) := by
                rw [List.drop_eq_getElem_cons hc]; simp [List.getD_eq_getElem?_getD, hc]
              have hwn : (l.getD (l.length - k) ⟨0, 0⟩).n < 5000 := by
                have : l.getD (l.length - k) ⟨0, 0⟩ = l[l.length - k] := by simp [List.getD_eq_getElem?_getD, hc]
                rw [this]; exact hw _ (List.getElem_mem hc)
              generalize l.getD (l.length - k) ⟨0, 0⟩ = w at g2 hdrop hwn
              rw [hdrop] at hscan
              have hwl := vlen_str Try.underlying9 (s := w)
              refine Does.skip ?_
              simp
              refine Does.block (Does.seq (Does.region ?_))
              simp [f1, f14, g1, g2]
              refine Does.seq (Does.seq (Does.region ?_))
              have hlt2 : decide ((w.n : Int) < 2) = decide (w.n < 2) := by congr 1; simp; omega
              have hstop : isOpt w = false → scan kn l [] = some (t.toList, l.drop (l.length - k)) := fun h => by
                rw [hscan, hdrop]; simp [scan, h]
              have hlen0 : t.n ≤ 5000 * l.length := by have : 5000 * (l.length - k) ≤ 5000 * l.length := Nat.mul_le_mul_left _ (by omega); omega
              cases hw2 : decide (w.n < 2)
              rotate_left
              · -- too short
                have hopt : isOpt w = false := by
                  have : ¬ 2 ≤ w.n := by have := of_decide_eq_true hw2; omega
                  simp [isOpt, this]
                simp [hwl, vbin_lss, hlt2, hw2]
                refine Does.condT (by simp) ?_
                refine Does.exit ?_
                simp
                exact ⟨hds, hgl, f1, f2, f3, l.length - k, by omega, f14, t, f13, hstop hopt, hlen0⟩
              · have hw2' : 2 ≤ w.n := by have := of_decide_eq_false hw2; omega
                have hix0 : vindex Try.prog 9 (.str w) (.int .i64 0) = some (.int .u8 ((w.at 0 : Nat) : Int)) := vindex_str (k := .i64) Try.underlying9 (s := w) (i := 0) (by omega)
                have h45 : decide (((w.at 0 : Nat) : Int) = 45) = decide (w.at 0 = 45) := by congr 1; simp; omega
                cases hw0 : decide (w.at 0 = 45)
                · -- no dash
                  have hopt : isOpt w = false := by simp only [isOpt, hw0, Bool.and_false]
                  simp [hwl, vbin_lss, hlt2, hw2, hix0, vbin_neq, h45, hw0]
                  refine Does.condT (by simp) ?_
                  refine Does.exit ?_
                  simp
                  exact ⟨hds, hgl, f1, f2, f3, l.length - k, by omega, f14, t, f13, hstop hopt, hlen0⟩
                · have hopt : isOpt w = true := by simp only [isOpt, hw0, Bool.and_true]; exact decide_eq_true hw2'
                  simp [hwl, vbin_lss, hlt2, hw2, hix0, vbin_neq, h45, hw0]
                  refine Does.condF (by simp) ?_
                  refine Does.skip ?_
                  simp
                  refine Does.seq (Does.region ?_)
                  have w14 : IntKind.i64.wrap (((l.length - k : Nat) : Int) + 1) = ((l.length - k : Nat) : Int) + 1 := wrap_i64 (by omega) (by omega)
                  simp [f14, vbin_add, w14]
                  refine Does.seq (Does.seq (Does.region ?_))
                  simp [vbin_seql]
                  cases hda : w.same (S.ofList [45, 45])
                  rotate_left
                  · refine Does.condT (by simp) ?_
                    refine Does.exit ?_
                    simp
                    refine ⟨hds, hgl, f1, f2, f3, l.length - k + 1, by omega, by simp, t, f13, ?_, hlen0⟩
                    rw [hscan]
                    have hda' : w.same dashes = true := hda
                    simp [scan, hopt, hda']
                  · have hda' : w.same dashes = false := hda
                    refine Does.condF (by simp) ?_
                    refine Does.skip ?_
                    simp
                    refine Does.seq (Does.region ?_)
                    simp
                    have hn1 : w.n - (w.n - 1) = 1 := by omega
                    refine Does.mono (Q := fun e fr2 st2 => st2 = st' ∧ fr2.ds = [] ∧ fr2.gl = gl ∧ ((e = AE.normal ∧ known kn w = true ∧ Fr.at fr2 0 = .str kn ∧ Fr.at fr2 1 = x ∧ Fr.at fr2 2 = .int .i64 least ∧ Fr.at fr2 3 = .int .i64 most ∧
                        Fr.at fr2 14 = .int .i64 (((l.length - k : Nat) : Int) + 1) ∧ ∃ t2, Fr.at fr2 13 = .str t2 ∧ t2.toList = t.toList ++ w.toList.drop 1 ∧ t2.n ≤ t.n + w.n) ∨
                      (e = AE.ret ∧ known kn w = false ∧ Fr.at fr2 8 = .str (S.ofList []) ∧ Fr.at fr2 9 = .nils ∧ Fr.at fr2 10 = .int .i64 62))) ?iloop ?itail
                    case itail =>
                      rintro e fr2 st2 ⟨rfl, hds, hgl, ⟨rfl, hkw, f0, f1, f2, f3, f14, t2, f13, ht2, hn2⟩ | ⟨rfl, hkw, f8, f9, f10⟩⟩
                      · simp
                        refine ⟨k - 1, by omega, hds, hgl, by omega, f0, f1, f2, f3, ?_, t2, f13, ?_, ?_⟩
                        · rw [f14]; exact congrArg (V.int .i64) (by omega)
                        · rw [hscan, ht2, show l.length - (k - 1) = l.length - k + 1 by omega]
                          simp [scan, hopt, hda', hkw]
                        · rw [show l.length - (k - 1) = l.length - k + 1 by omega]
                          omega
                      · simp
                        refine ⟨hds, hgl, ?_, f8, f9, f10⟩
                        rw [hscan]
                        simp [scan, hopt, hda', hkw]
                    case iloop =>
                      refine Does.block (Does.inv (fun k2 fr2 st2 => st2 = st' ∧ fr2.ds = [] ∧ fr2.gl = gl ∧ k2 ≤ w.n - 1 ∧ Fr.at fr2 0 = .str kn ∧ Fr.at fr2 1 = x ∧ Fr.at fr2 2 = .int .i64 least ∧ Fr.at fr2 3 = .int .i64 most ∧
                        Fr.at fr2 14 = .int .i64 (((l.length - k : Nat) : Int) + 1) ∧ Fr.at fr2 15 = .str w ∧ Fr.at fr2 16 = .int .i64 ((w.n - k2 : Nat) : Int) ∧
                        ∃ t2 pre, Fr.at fr2 13 = .str t2 ∧ t2.toList = t.toList ++ pre ∧ pre ++ w.toList.drop (w.n - k2) = w.toList.drop 1 ∧ (pre.all fun b => decide (b ∈ kn.toList)) = true ∧ t2.n ≤ t.n + (w.n - k2)) (w.n - 1) ?iinit ?istep)
                      case iinit => exact ⟨rfl, by simp [hds], by simp [hgl], Nat.le_refl _, by simp [f0], by simp [f1], by simp [f2], by simp [f3], by simp, by simp, by simp [hn1], t, [], by simp [f13], by simp, by simp [hn1], rfl, Nat.le_add_right _ _⟩
                      case istep =>
                        rintro k2 fr2 st2 ⟨rfl, hds, hgl, hk2, f0, f1, f2, f3, f14, f15, f16, t2, pre, f13, ht2, hpre, hall, hn2⟩
                        refine Does.seq (Does.seq (Does.region ?_))
                        simp [f15, f16, hwl, vbin_lss]
                        refine Does.cond (c := decide (w.n - k2 < w.n)) (by simp) (fun hc2 => ?_) (fun hc2 => ?_)
                        · have hc2 : w.n - k2 < w.n := of_decide_eq_true hc2
                          have hix := vindex_str (k := .i64) Try.underlying9 (s := w) hc2
                          have hca := ihCall_W (has_ok gl st2 kn (w.at (w.n - k2)) (by omega) (S.at_lt _ _))
                          have hdr := S.drop_at w hc2
                          refine Does.skip ?_
                          simp
                          refine Does.seq (Does.block (Does.seq (Does.seq (Does.region ?_))))
                          simp [f0, f15, f16, hgl, hix, vcall_callable hk18, hca]
                          by_cases hmem : UInt8.ofNat (w.at (w.n - k2)) ∈ kn.toList
                          · refine Does.condF (by simp [hmem]) ?_
                            refine Does.skip ?_
                            simp
                            refine Does.region ?_
                            have w16 : IntKind.i64.wrap (((w.n - k2 : Nat) : Int) + 1) = ((w.n - k2 : Nat) : Int) + 1 := wrap_i64 (by omega) (by omega)
                            have hsl : vslice Try.prog 9 (.str w) (some (.int .i64 ((w.n - k2 : Nat) : Int))) (some (.int .i64 (((w.n - k2 : Nat) : Int) + 1))) = some (.str (w.cut (w.n - k2) (w.n - k2 + 1))) :=
                              vslice_str (k := .i64) (k' := .i64) Try.underlying9 (s := w) (lo := w.n - k2) (hi := w.n - k2 + 1) (by omega) (by omega)
                            have hcn : (w.cut (w.n - k2) (w.n - k2 + 1)).n = 1 := by show Nat.sub (w.n - k2 + 1) (w.n - k2) = 1; simp only [Nat.sub_eq]; omega
                            have had : ∀ kk, vbin Try.prog kk .add 9 (.str t2) (.str (w.cut (w.n - k2) (w.n - k2 + 1))) = some (.str (t2.app (w.cut (w.n - k2) (w.n - k2 + 1)))) := fun kk => vbin_sadd (by rw [hcn]; simp only [maxStr]; omega)
                            simp [f13, f15, f16, evOpt, vbin_add, w16, hsl, had]
                            refine Does.region ?_
                            simp [f16, vbin_add, w16]
                            refine ⟨k2 - 1, by omega, hds, hgl, by omega, f0, f1, f2, f3, f14, f15, by omega, pre ++ [UInt8.ofNat (w.at (w.n - k2))], ?_, ?_, ?_, ?_⟩
                            · rw [S.toList_app, ht2, cut_one w hc2, List.append_assoc]
                            · rw [← List.drop_one, ← hpre, hdr, show w.n - (k2 - 1) = w.n - k2 + 1 by omega, List.append_assoc]; rfl
                            · intro b hb
                              rcases List.mem_append.1 hb with hb | hb
                              · exact of_decide_eq_true (List.all_eq_true.1 hall b hb)
                              · rw [List.mem_singleton.1 hb]; exact hmem
                            · show t2.n + (w.cut (w.n - k2) (w.n - k2 + 1)).n ≤ _
                              rw [hcn]; omega
                          · refine Does.condT (by simp [hmem]) ?_
                            refine Does.seq (Does.region ?_)
                            simp
                            refine Does.ret ?_
                            simp
                            refine ⟨hds, hgl, ?_⟩
                            simp only [known]
                            rw [← hpre, hdr, List.all_append, List.all_cons, decide_eq_false hmem]
                            simp
                        · have hc2 : ¬ w.n - k2 < w.n := of_decide_eq_false hc2
                          have he : w.n - k2 = w.n := by omega
                          refine Does.exit ?_
                          simp
                          rw [he, List.drop_of_length_le (by rw [S.len]; exact Nat.le_refl _), List.append_nil] at hpre
                          refine ⟨hds, hgl, ?_, f0, f1, f2, f3, f14, t2, f13, ?_, by omega⟩
                          · simp only [known]; rw [← hpre]; exact hall
                          · rw [ht2, hpre, List.drop_one]
            · have hc : ¬ l.length - k < l.length := of_decide_eq_false hc
              have he : l.length - k = l.length := by omega
              refine Does.exit ?_
              simp
              rw [he] at f14 hscan htn
              refine ⟨hds, hgl, f1, f2, f3, l.length, Nat.le_refl _, f14, t, f13, ?_, htn⟩
              rw [hscan, List.drop_length]
              rfl
      · have hp : parseS kn l least most = ([], [], 1) := by
          unfold parseS
          rw [if_pos (.inr (.inr hno))]
        simp [hds, f8, f9, f10]
        rw [hp]; exact ⟨.refl _, S.ofList [], .nils, rfl, rfl, .nils, rfl⟩
end Go.Vm
