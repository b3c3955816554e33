/- touchstoneref11.Parse does what the document says, by the evaluator's equations. Conditions: fewer than 5000 words, each below 5000 bytes; the known letters are 1000 at most. -/
import Derived.Test.YtajfpccgknoafaaRowA
namespace Go.Vm
open Go Go.Proofs
attribute [local simp] Oks xOps vwanted isDefer vop kindOf vpure ev evs toV andThen inBlock atTo_some Fr.dsTo Fr.glTo Fr.toNone initFr_at initFr_ds initFr_gl veff traverse tupled vresult V.undef

/-! ## what is said of words -/
def lettersOk (kn : S) : Prop := ∀ i, i < kn.n → isLetter (kn.at i) = true
def isOpt (w : S) : Bool := decide (2 ≤ w.n) && decide (w.at 0 = 45)
def dashes : S := S.ofList [45, 45]
def known (kn w : S) : Bool := (w.toList.drop 1).all fun b => decide (b ∈ kn.toList)

def scan (kn : S) : List S → List UInt8 → Option (List UInt8 × List S)
  | [], t => some (t, [])
  | w :: r, t => if isOpt w = true then (if w.same dashes = true then some (t, r) else if known kn w = true then scan kn r (t ++ w.toList.drop 1) else none) else some (t, w :: r)

def setFrom (t : List UInt8) : Nat → Nat → List UInt8
  | _, 0 => []
  | c, n + 1 => (if UInt8.ofNat c ∈ t then [UInt8.ofNat c] else []) ++ setFrom t (c + 1) n
def setOf (t : List UInt8) : List UInt8 := setFrom t 0 256

open Classical in
/-- the letters told, the operands, the error -/
noncomputable def parseS (kn : S) (l : List S) (least most : Int) : List UInt8 × List S × Nat :=
  if least < 0 ∨ most < least ∨ ¬ lettersOk kn then ([], [], 1) else
    match scan kn l [] with
    | none => ([], [], 62)
    | some (t, r) => if (r.length : Int) < least ∨ most < (r.length : Int) then ([], [], 62) else (setOf t, r, 0)

theorem parseS_bad {kn : S} {l : List S} {least most : Int} (h : least < 0 ∨ most < least ∨ ¬ lettersOk kn) : parseS kn l least most = ([], [], 1) := by
  unfold parseS; rw [if_pos h]
theorem parseS_none {kn : S} {l : List S} {least most : Int} (h : ¬ (least < 0 ∨ most < least ∨ ¬ lettersOk kn)) (hs : scan kn l [] = none) : parseS kn l least most = ([], [], 62) := by
  unfold parseS; rw [if_neg h, hs]
theorem parseS_many {kn : S} {l r : List S} {t : List UInt8} {least most : Int} (h : ¬ (least < 0 ∨ most < least ∨ ¬ lettersOk kn)) (hs : scan kn l [] = some (t, r)) (hr : (r.length : Int) < least ∨ most < (r.length : Int)) : parseS kn l least most = ([], [], 62) := by
  unfold parseS; rw [if_neg h, hs]; simp only [hr, if_true]
theorem parseS_ok {kn : S} {l r : List S} {t : List UInt8} {least most : Int} (h : ¬ (least < 0 ∨ most < least ∨ ¬ lettersOk kn)) (hs : scan kn l [] = some (t, r)) (hr : ¬ ((r.length : Int) < least ∨ most < (r.length : Int))) : parseS kn l least most = (setOf t, r, 0) := by
  unfold parseS; rw [if_neg h, hs]; simp only [hr, if_false]

theorem setFrom_step (t : List UInt8) {c n : Nat} : setFrom t c (n + 1) = (if UInt8.ofNat c ∈ t then [UInt8.ofNat c] else []) ++ setFrom t (c + 1) n := rfl

theorem vbin_sadd {P : Program} {kk : Bool} {T : TypeId} {a b : S} (h : a.n + b.n ≤ maxStr) : vbin P kk .add T (.str a) (.str b) = some (.str (a.app b)) := by
  have : Nat.ble (Nat.add a.n b.n) maxStr = true := Nat.ble_eq_true_of_le h
  simp only [vbin, this]

theorem vslice_str {P : Program} {T : TypeId} {k k' : IntKind} (hT : P.underlying T = some .string) {s : S} {lo hi : Nat} (h1 : lo ≤ hi) (h2 : hi ≤ s.n) : vslice P T (.str s) (some (.int k (lo : Int))) (some (.int k' (hi : Int))) = some (.str (s.cut lo hi)) := by
  have e1 : Nat.ble lo hi = true := Nat.ble_eq_true_of_le h1
  have e2 : Nat.ble hi s.n = true := Nat.ble_eq_true_of_le h2
  simp only [vslice, hT, bound, asNat_cast, e1, e2]
  rfl

theorem cut_one (s : S) {i : Nat} (h : i < s.n) : (s.cut i (i + 1)).toList = [UInt8.ofNat (s.at i)] := by
  rw [S.toList_cut s (by omega) (by omega), S.drop_at s h]
  simp

theorem conv_byte (st : St) (c : Nat) (hc : c < 256) : vconv Try.prog st 3 5 (.int .i64 (c : Int)) = some (.int .u8 (c : Int)) := by
  have h : vconv Try.prog st 3 5 (.int .i64 (c : Int)) = viaSem Try.prog (fun l => convert 3 5 (l.getD 0 undef)) [.int .i64 (c : Int)] := by
    simp only [vconv, Try.underlying3, Try.underlying5]
  rw [h]
  have hw : IntKind.u8.wrap (c : Int) = (c : Int) := wrap_small (k := .u8) hc
  have h2 : unSem Try.prog (convert 3 5 (Value.int IntKind.i64 (c : Int))) = some (.int .u8 (IntKind.u8.wrap (c : Int))) := by
    rfl
  simp only [viaSem, traverse, ofV]
  show (match unSem Try.prog (convert 3 5 (Value.int IntKind.i64 (c : Int))) with
    | some v => toV 6 v
    | none => none) = _
  rw [h2, hw]
  rfl

theorem bytes_one (c : Nat) : vbuildSlice Try.prog 40 1 [(0, .int .u8 (c : Int))] = some ([.int .u8 (c : Int)], 5, 1) := by
  have h : ∀ n : Int, vbuildSlice Try.prog 40 1 [(0, .int .u8 n)] = some ([.int .u8 n], 5, 1) := fun n => by kernel_rfl
  exact h _
theorem ofList_toList (l : List UInt8) : (S.ofList l).toList = l := dec_enc l
theorem oneC_int (k : IntKind) (n : Int) : oneC (.int k n) = true := rfl
theorem conv_str (st : St) (id c : Nat) (hb : st.box.get id = some (.cells [.int .u8 (c : Int)] 5 true (some 0))) : vconv Try.prog st 40 9 (.ms id 0 1 1 (some 1)) = some (.str (S.ofList [UInt8.ofNat c])) := by
  have h1 : sliceCells st 1 (.ms id 0 1 1 (some 1)) = some ([.int .u8 (c : Int)], 1) := by simp [sliceCells, hb, sub]
  have h2 : bytesOf [.int .u8 (c : Int)] = some [UInt8.ofNat c] := by simp [bytesOf]
  simp only [vconv, Try.underlying40, Try.underlying9, Try.underlying5, h1, h2]

theorem scan_len (kn : S) : ∀ (l : List S) (t : List UInt8) (p : List UInt8 × List S), scan kn l t = some p → p.2.length ≤ l.length
  | [], t, p, h => by simp only [scan, Option.some.injEq] at h; subst h; exact Nat.le_refl _
  | w :: r, t, p, h => by
    simp only [scan] at h
    split at h
    · split at h
      · simp only [Option.some.injEq] at h; subst h; simp
      · split at h
        · have := scan_len kn r _ p h; simp; omega
        · cases h
    · simp only [Option.some.injEq] at h; subst h; exact Nat.le_refl _

theorem setFrom_len (t : List UInt8) : ∀ (n c : Nat), (setFrom t c n).length ≤ n
  | 0, c => Nat.le_refl _
  | n + 1, c => by
    have := setFrom_len t n (c + 1)
    rw [setFrom_step, List.length_append]
    split <;> simp <;> omega

theorem parseS_len (kn : S) (l : List S) (least most : Int) : (parseS kn l least most).1.length ≤ 256 ∧ (parseS kn l least most).2.1.length ≤ l.length := by
  unfold parseS
  split
  · simp
  · split
    · simp
    · rename_i t r hs
      split
      · simp
      · exact ⟨setFrom_len t 256 0, scan_len kn l [] (t, r) hs⟩

end Go.Vm
