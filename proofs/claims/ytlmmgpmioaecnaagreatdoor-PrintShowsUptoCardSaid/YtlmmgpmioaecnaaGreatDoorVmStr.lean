/- Strings as numbers: the length, and the letters as one number, the first letter highest. -/
import GoSem.Op.String
namespace Go.Vm
open Go
def dec : Nat → Nat → List UInt8
 | 0, _ => []
 | n + 1, x => UInt8.ofNat (x / 256 ^ n) :: dec n x
def enc : List UInt8 → Nat → Nat
 | [], a => a
 | b :: r, a => enc r (Nat.add (Nat.mul a 256) b.toNat)
structure S where
 n : Nat
 x : Nat
 deriving Inhabited
def S.toList (s : S) : List UInt8 := dec s.n s.x
def S.ofList (l : List UInt8) : S := ⟨l.length, enc l 0⟩
def S.app (a b : S) : S := ⟨Nat.add a.n b.n, Nat.add (Nat.mul a.x (Nat.pow 256 b.n)) (Nat.mod b.x (Nat.pow 256 b.n))⟩
def S.cut (s : S) (lo hi : Nat) : S := ⟨Nat.sub hi lo, Nat.div s.x (Nat.pow 256 (Nat.sub s.n hi))⟩
def S.at (s : S) (i : Nat) : Nat := Nat.mod (Nat.div s.x (Nat.pow 256 (Nat.sub s.n (Nat.succ i)))) 256
def S.same (a b : S) : Bool :=
 match Nat.beq a.n b.n with
 | true => Nat.beq (Nat.mod a.x (Nat.pow 256 a.n)) (Nat.mod b.x (Nat.pow 256 b.n))
 | false => false
def S.less (a b : S) : Bool :=
 let u := Nat.mul (Nat.mod a.x (Nat.pow 256 a.n)) (Nat.pow 256 b.n)
 let v := Nat.mul (Nat.mod b.x (Nat.pow 256 b.n)) (Nat.pow 256 a.n)
 match Nat.blt u v with
 | true => true
 | false => match Nat.beq u v with
  | true => Nat.blt a.n b.n
  | false => false
theorem Jj5 : ∀ (n x : Nat), (dec n x).length = n
 | 0, _ => rfl
 | n + 1, x => by simp [dec, Jj5 n x]
@[simp] theorem S.len (s : S) : s.toList.length = s.n := Jj5 _ _
theorem Jer (a : Nat) : UInt8.ofNat (a % 256) = UInt8.ofNat a := by
 apply UInt8.toNat_inj.1
 simp
theorem Jl4 {a b : Nat} (h : a % 256 = b % 256) : UInt8.ofNat a = UInt8.ofNat b := by
 rw [← Jer a, h, Jer]
theorem Jhb (x n : Nat) : x % 256 ^ (n + 1) / 256 ^ n = x / 256 ^ n % 256 := by
 rw [Nat.pow_succ, Nat.mod_mul_right_div_self]
theorem Jdc : ∀ (n : Nat) {x y : Nat}, x % 256 ^ n = y % 256 ^ n → dec n x = dec n y
 | 0, _, _, _ => rfl
 | n + 1, x, y, h => by
  have h1 : x / 256 ^ n % 256 = y / 256 ^ n % 256 := by rw [← Jhb, ← Jhb, h]
  have h2 : x % 256 ^ n = y % 256 ^ n := by
   have e : ∀ z, z % 256 ^ (n + 1) % 256 ^ n = z % 256 ^ n := fun z => by
    rw [Nat.pow_succ]; exact Nat.mod_mul_right_mod _ _ _
   rw [← e x, ← e y, h]
  simp only [dec]
  rw [Jl4 h1, Jdc n h2]
theorem Jj6 : ∀ (m n a b : Nat), dec (m + n) (a * 256 ^ n + b % 256 ^ n) = dec m a ++ dec n b
 | 0, n, a, b => by
  simp only [Nat.zero_add, dec, List.nil_append]
  apply Jdc
  rw [Nat.add_comm, Nat.add_mul_mod_self_right, Nat.mod_mod]
 | m + 1, n, a, b => by
  have hp : 0 < 256 ^ n := Nat.pow_pos (by decide)
  rw [show m + 1 + n = (m + n) + 1 by omega]
  simp only [dec, List.cons_append]
  rw [Jj6 m n a b]
  congr 2
  rw [Nat.add_comm m n, Nat.pow_add, ← Nat.div_div_eq_div_mul, Nat.add_comm (a * _), Nat.add_mul_div_right _ _ hp, Nat.div_eq_of_lt (Nat.mod_lt _ hp), Nat.zero_add]
theorem S.toList_app (a b : S) : (a.app b).toList = a.toList ++ b.toList := Jj6 _ _ _ _
theorem Jh1 : ∀ (n k x : Nat), (dec n x).drop k = dec (n - k) x
 | n, 0, x => rfl
 | 0, k + 1, x => by simp [dec]
 | n + 1, k + 1, x => by simp [dec, Jh1 n k x]
theorem Jh2 : ∀ (n k x : Nat), k ≤ n → (dec n x).take k = dec k (x / 256 ^ (n - k))
 | n, 0, x, _ => by simp [dec]
 | 0, k + 1, x, h => by omega
 | n + 1, k + 1, x, h => by
  simp only [dec, List.take_succ_cons]
  rw [Jh2 n k x (by omega), show n + 1 - (k + 1) = n - k by omega, Nat.div_div_eq_div_mul, ← Nat.pow_add, show n - k + k = n by omega]
theorem S.toList_cut (s : S) {lo hi : Nat} (h1 : lo ≤ hi) (h2 : hi ≤ s.n) : (s.cut lo hi).toList = (s.toList.drop lo).take (hi - lo) := by
 unfold S.toList S.cut
 rw [Jh1, Jh2 _ _ _ (by omega)]
 show dec (hi - lo) (s.x / 256 ^ (s.n - hi)) = _
 rw [show s.n - lo - (hi - lo) = s.n - hi by omega]
theorem Jj7 : ∀ (n i x : Nat), i < n → (dec n x)[i]? = some (UInt8.ofNat (x / 256 ^ (n - (i + 1))))
 | 0, _, _, h => by omega
 | n + 1, 0, x, _ => by simp [dec]
 | n + 1, i + 1, x, h => by
  simp only [dec, List.getElem?_cons_succ]
  rw [Jj7 n i x (by omega), show n + 1 - (i + 1 + 1) = n - (i + 1) by omega]
theorem S.toList_at (s : S) {i : Nat} (h : i < s.n) : s.toList[i]? = some (UInt8.ofNat (s.at i)) := by
 unfold S.toList S.at
 rw [Jj7 _ _ _ h]
 show _ = some (UInt8.ofNat (s.x / 256 ^ (s.n - (i + 1)) % 256))
 rw [Jer]
theorem S.at_lt (s : S) (i : Nat) : s.at i < 256 := Nat.mod_lt _ (by decide)
theorem Jfd : ∀ (l : List UInt8) (a : Nat), enc l a = a * 256 ^ l.length + enc l 0
 | [], a => by simp [enc]
 | b :: r, a => by
  simp only [enc, List.length_cons]
  show enc r (a * 256 + b.toNat) = _ + enc r (0 * 256 + b.toNat)
  rw [Jfd r (a * 256 + b.toNat), Jfd r (0 * 256 + b.toNat), Nat.pow_succ, Nat.add_mul, Nat.zero_mul, Nat.zero_add, Nat.mul_assoc, Nat.mul_comm 256, Nat.add_assoc]
theorem Jl5 : ∀ (l : List UInt8), enc l 0 < 256 ^ l.length
 | [] => by simp [enc]
 | b :: r => by
  simp only [enc, List.length_cons]
  show enc r (0 * 256 + b.toNat) < _
  rw [Jfd, Nat.zero_mul, Nat.zero_add, Nat.pow_succ]
  have h1 := Jl5 r
  have h2 : b.toNat < 256 := b.toNat_lt
  have h3 : b.toNat * 256 ^ r.length ≤ 255 * 256 ^ r.length := Nat.mul_le_mul_right _ (by omega)
  omega
theorem Jfe : ∀ (l : List UInt8), dec l.length (enc l 0) = l
 | [] => rfl
 | b :: r => by
  simp only [List.length_cons, dec, enc]
  show UInt8.ofNat (enc r (0 * 256 + b.toNat) / _) :: dec r.length (enc r (0 * 256 + b.toNat)) = _
  have h1 := Jl5 r
  have hp : 0 < 256 ^ r.length := Nat.pow_pos (by decide)
  rw [Jfd, Nat.zero_mul, Nat.zero_add]
  congr 1
  ·rw [Nat.add_comm, Nat.add_mul_div_right _ _ hp, Nat.div_eq_of_lt h1, Nat.zero_add]
   simp
  ·rw [← Jfe r]
   conv => lhs; rw [Jfe r]
   apply Jdc
   rw [Nat.add_comm, Nat.add_mul_mod_self_right]
@[simp] theorem S.toList_ofList (l : List UInt8) : (S.ofList l).toList = l := Jfe l
theorem JbZ (a : Nat) : (UInt8.ofNat a).toNat = a % 256 := by simp
theorem Jdd (x n : Nat) : x % 256 ^ (n + 1) = (x / 256 ^ n % 256) * 256 ^ n + x % 256 ^ n := by
 have := Nat.div_add_mod (x % 256 ^ (n + 1)) (256 ^ n)
 rw [Jhb] at this
 have e : x % 256 ^ (n + 1) % 256 ^ n = x % 256 ^ n := by
  rw [Nat.pow_succ]; exact Nat.mod_mul_right_mod _ _ _
 rw [e] at this
 rw [← this, Nat.mul_comm]
theorem Jj8 : ∀ (n : Nat) {x y : Nat}, dec n x = dec n y → x % 256 ^ n = y % 256 ^ n
 | 0, _, _, _ => by simp [Nat.mod_one]
 | n + 1, x, y, h => by
  simp only [dec, List.cons.injEq] at h
  rw [Jdd, Jdd y, Jj8 n h.2]
  have := congrArg UInt8.toNat h.1
  rw [JbZ, JbZ] at this
  rw [this]
theorem S.same_eq (a b : S) : a.same b = (a.toList == b.toList) := by
 unfold S.same
 rw [Bool.eq_iff_iff, beq_iff_eq]
 constructor
 ·intro h
  split at h
  ·rename_i hn
   have hn := Nat.eq_of_beq_eq_true hn
   have h := Nat.eq_of_beq_eq_true h
   unfold S.toList
   rw [hn] at h ⊢
   exact Jdc _ h
  ·simp at h
 ·intro h
  have hn : a.n = b.n := by rw [← a.len, ← b.len, h]
  rw [hn, Nat.beq_refl]
  have h' : dec a.n a.x = dec b.n b.x := h
  rw [hn] at h'
  have := Jj8 _ h'
  show Nat.beq (a.x % 256 ^ b.n) (b.x % 256 ^ b.n) = true
  rw [this, Nat.beq_refl]
theorem Jh3 : ∀ (m n a b : Nat), Op.bytesLess (dec m a) (dec n b) = true ↔
  (a % 256 ^ m * 256 ^ n < b % 256 ^ n * 256 ^ m ∨ (a % 256 ^ m * 256 ^ n = b % 256 ^ n * 256 ^ m ∧ m < n))
 | m, 0, a, b => by
  cases m <;> simp [dec, Op.bytesLess, Nat.mod_one]
 | 0, n + 1, a, b => by
  simp [dec, Op.bytesLess, Nat.mod_one]
  omega
 | m + 1, n + 1, a, b => by
  simp only [dec, Op.bytesLess, Bool.or_eq_true, Bool.and_eq_true, decide_eq_true_eq, beq_iff_eq]
  rw [Jh3 m n a b, Jdd a m, Jdd b n, UInt8.lt_iff_toNat_lt, ← UInt8.toNat_inj, JbZ, JbZ]
  have hM : 0 < 256 ^ m := Nat.pow_pos (by decide)
  have hN : 0 < 256 ^ n := Nat.pow_pos (by decide)
  have ha : a % 256 ^ m < 256 ^ m := Nat.mod_lt _ hM
  have hb : b % 256 ^ n < 256 ^ n := Nat.mod_lt _ hN
  generalize a / 256 ^ m % 256 = h
  generalize b / 256 ^ n % 256 = k
  generalize a % 256 ^ m = u at *
  generalize b % 256 ^ n = v at *
  generalize hMM : 256 ^ m = M at *
  generalize hNN : 256 ^ n = N at *
  have e1 : (h * M + u) * 256 ^ (n + 1) = 256 * (h * (M * N) + u * N) := by
   rw [Nat.pow_succ, hNN, Nat.add_mul, Nat.mul_add]
   congr 1 <;> ac_rfl
  have e2 : (k * N + v) * 256 ^ (m + 1) = 256 * (k * (M * N) + v * M) := by
   rw [Nat.pow_succ, hMM, Nat.add_mul, Nat.mul_add]
   congr 1 <;> ac_rfl
  rw [e1, e2]
  have hu : u * N < M * N := (Nat.mul_lt_mul_right hN).2 ha
  have hv : v * M < M * N := by rw [Nat.mul_comm M N]; exact (Nat.mul_lt_mul_right hM).2 hb
  generalize M * N = Z at *
  generalize u * N = U at *
  generalize v * M = W at *
  rcases Nat.lt_trichotomy h k with hk | hk | hk
  ·have : h * Z + Z ≤ k * Z := by
    have := Nat.mul_le_mul_right Z (show h + 1 ≤ k by omega)
    rwa [Nat.add_mul, Nat.one_mul] at this
   constructor
   ·intro _; left; omega
   ·intro _; left; exact hk
  ·subst hk
   constructor
   ·rintro (h1 | ⟨_, h1 | ⟨h1, h2⟩⟩)
    ·omega
    ·left; omega
    ·right; exact ⟨by omega, by omega⟩
   ·rintro (h1 | ⟨h1, h2⟩)
    ·right; exact ⟨rfl, .inl (by omega)⟩
    ·right; exact ⟨rfl, .inr ⟨by omega, by omega⟩⟩
  ·have : k * Z + Z ≤ h * Z := by
    have := Nat.mul_le_mul_right Z (show k + 1 ≤ h by omega)
    rwa [Nat.add_mul, Nat.one_mul] at this
   constructor
   ·rintro (h1 | ⟨h1, _⟩) <;> omega
   ·rintro (h1 | ⟨h1, _⟩) <;> omega
theorem S.less_eq (a b : S) : a.less b = Op.bytesLess a.toList b.toList := by
 rw [Bool.eq_iff_iff]
 refine Iff.trans ?_ (Jh3 a.n b.n a.x b.x).symm
 show (S.less a b = true) ↔ _
 unfold S.less
 simp only
 split
 ·rename_i h
  rw [Nat.blt_eq] at h
  exact ⟨fun _ => .inl h, fun _ => rfl⟩
 ·rename_i h
  have h' : ¬ a.x % 256 ^ a.n * 256 ^ b.n < b.x % 256 ^ b.n * 256 ^ a.n := fun hh => by
   have := (Nat.blt_eq (x := a.x % 256 ^ a.n * 256 ^ b.n) (y := b.x % 256 ^ b.n * 256 ^ a.n)).mpr hh
   have h2 : Nat.blt (a.x % 256 ^ a.n * 256 ^ b.n) (b.x % 256 ^ b.n * 256 ^ a.n) = false := h
   rw [this] at h2; simp at h2
  split
  ·rename_i he
   have he := Nat.eq_of_beq_eq_true he
   rw [Nat.blt_eq]
   exact ⟨fun h => .inr ⟨he, h⟩, fun h => h.elim (fun x => absurd x h') (·.2)⟩
  ·rename_i he
   constructor
   ·intro h; simp at h
   ·rintro (x | ⟨x, _⟩)
    ·exact absurd x h'
    ·have : Nat.beq (a.x % 256 ^ a.n * 256 ^ b.n) (b.x % 256 ^ b.n * 256 ^ a.n) = true := by rw [x, Nat.beq_refl]
     have h2 : Nat.beq (a.x % 256 ^ a.n * 256 ^ b.n) (b.x % 256 ^ b.n * 256 ^ a.n) = false := he
     rw [this] at h2; simp at h2
end Go.Vm
