/- What is known: the set of the special bytes, that a wrong rune is none of them, the digits of small numbers, that the law's helper wakes: runs in the kernel. -/
import Derived.Test.YtphinjijaglokaaGreatDoorSzA
import Derived.Test.YtphinjijaglokaaGreatDoorVmMemo
import Derived.Test.YtphinjijaglokaaGreatDoorSz0
namespace Go.Vm
open Go Go.Proofs Go.Pa
def powV : List V := (List.range 20).map fun n => .int .u64 ((10 ^ n : Nat) : Int)
def errR : List V := [.iface 182 (.cp [.str (S.ofList [118, 97, 108, 117, 101, 32, 111, 117, 116, 32, 111, 102, 32, 114, 97, 110, 103, 101])])]
def errS : List V := [.iface 182 (.cp [.str (S.ofList [105, 110, 118, 97, 108, 105, 100, 32, 115, 121, 110, 116, 97, 120])])]
noncomputable def patGl : Gl := (((.nil : Gl).put 1 powV).put 3 errR).put 2 errS
theorem Jc1 : patGl.allB (fun l => l.all (Jaq true 50)) = true := by kernel_rfl
theorem Jcr : Tryz.prog.follows .mixedOrders = true := by kernel_rfl
abbrev kSet : Ent := ⟨84, [.str specialS], .tup [.agg asciiL, .bool true]⟩
abbrev kBad : Ent := ⟨82, [.str specialS, .int .i32 65533], .int .i64 (-1)⟩
abbrev kAwake : Ent := ⟨7, [], .bool true⟩
def sm1 : S := S.ofList (((List.range 10).map fun n => UInt8.ofNat (48 + n)) ++ (List.range 26).map fun n => UInt8.ofNat (97 + n))
def sm2 : S := S.ofList ((List.range 100).flatMap fun n => [UInt8.ofNat (48 + n / 10), UInt8.ofNat (48 + n % 10)])
def Jkw (n : Nat) : S := if n < 10 then sm1.cut n (n + 1) else if n < 100 then sm2.cut (n * 2) (n * 2 + 2) else S.ofList (QW n)
theorem Jl5 : ∀ n, n ≤ 255 → (Jkw n).toList = QW n := by
 have h : ((List.range 256).all fun n => (Jkw n).toList == QW n) = true := by kernel_rfl
 intro n hn
 have := List.all_eq_true.1 h n (List.mem_range.2 (by omega))
 exact eq_of_beq this
def Jd3 (n : Nat) : Ent := ⟨23, [.int .i64 (n : Int)], .str (Jkw n)⟩
def JbO (n : Nat) : Ent := ⟨45, [.int .i64 (n : Int)], .str (S.ofList (QW n))⟩
theorem kSet_ok : EntOk Tryz.prog patGl kSet :=
 JbQ Jcr Jdi Jc1 (n := 1000000) (by kernel_rfl) (by kernel_rfl) (by kernel_rfl)
theorem kBad_ok : EntOk Tryz.prog patGl kBad :=
 JbQ Jcr Jdi Jc1 (n := 1000000) (by kernel_rfl) (by kernel_rfl) (by kernel_rfl)
theorem kAwake_ok : EntOk Tryz.prog patGl kAwake :=
 JbQ Jcr Jdi Jc1 (n := 1000000) (by kernel_rfl) (by kernel_rfl) (by kernel_rfl)
def kNums : List Ent := (List.range 256).map Jd3 ++ (List.range 256).map JbO
noncomputable def Jdt (f : Nat → Ent) (a : Nat) : Bool := (List.range' a 64).all fun n => (f n).args.all (Jaq true 50) && Jaq false 50 (f n).v && @gives Tryz.prog (JeM patGl []) patGl 1000000 (f n)
theorem JnI {f : Nat → Ent} {a n : Nat} (h : Jdt f a = true) (h1 : a ≤ n) (h2 : n < a + 64) : EntOk Tryz.prog patGl (f n) := by
 have h := List.all_eq_true.1 h n (List.mem_range'_1.2 ⟨h1, h2⟩)
 simp only [Bool.and_eq_true] at h
 exact JbQ Jcr Jdi Jc1 h.1.1 h.1.2 h.2
theorem Jik {f : Nat → Ent} (h : ∀ i, i < 4 → Jdt f (i * 64) = true) (n : Nat) (hn : n < 256) : EntOk Tryz.prog patGl (f n) := JnI (h (n / 64) (by omega)) (by omega) (by omega)
theorem kI0 : Jdt Jd3 0 = true := by kernel_rfl
theorem kI1 : Jdt Jd3 64 = true := by kernel_rfl
theorem kI2 : Jdt Jd3 128 = true := by kernel_rfl
theorem kI3 : Jdt Jd3 192 = true := by kernel_rfl
theorem kD0 : Jdt JbO 0 = true := by kernel_rfl
theorem kD1 : Jdt JbO 64 = true := by kernel_rfl
theorem kD2 : Jdt JbO 128 = true := by kernel_rfl
theorem kD3 : Jdt JbO 192 = true := by kernel_rfl
theorem Jl6 : ∀ e ∈ kNums, EntOk Tryz.prog patGl e := fun e he => by
 rcases List.mem_append.1 he with he | he
 ·obtain ⟨n, hn, rfl⟩ := List.mem_map.1 he
  exact Jik (fun i hi => match i, hi with | 0, _ => kI0 | 1, _ => kI1 | 2, _ => kI2 | 3, _ => kI3) n (List.mem_range.1 hn)
 ·obtain ⟨n, hn, rfl⟩ := List.mem_map.1 he
  exact Jik (fun i hi => match i, hi with | 0, _ => kD0 | 1, _ => kD1 | 2, _ => kD2 | 3, _ => kD3) n (List.mem_range.1 hn)
theorem Jil (f : Nat) (args : List V) (st : St) : ∀ (A B : List Rule), (∀ e ∈ A, Nat.beq e.f f = false ∨ e.run args st = none) → (mfF f (A ++ B)).run args st = (mfF f B).run args st
 | [], B, _ => rfl
 | a :: A, B, h => by
  have ih := Jil f args st A B fun e he => h e (by simp [he])
  simp only [List.cons_append, mfF]
  cases hb : Nat.beq a.f f with
  | false => exact ih
  | true =>
   rcases h a (by simp) with h1 | h1
   ·rw [h1] at hb; cases hb
   ·simp only [h1]; exact ih
theorem Jc2 {f : Nat} {args : List V} {st : St} {L : List Rule} (h : ∀ e ∈ L, Nat.beq e.f f = false ∨ e.run args st = none) : (mfF f L).run args st = none := by
 have := Jil f args st L [] h
 rw [List.append_nil] at this
 rw [this]; rfl
theorem Jbd {f : Nat} {args : List V} {st : St} {p : V × St} : ∀ {L : List Rule}, (∃ e ∈ L, e.f = f ∧ e.run args st = some p) → (∀ e ∈ L, e.f = f → e.run args st = none ∨ e.run args st = some p) → (mfF f L).run args st = some p
 | [], h, _ => by obtain ⟨e, he, _⟩ := h; cases he
 | a :: L, h, hu => by
  simp only [mfF]
  cases hb : Nat.beq a.f f with
  | false =>
   refine Jbd (L := L) ?_ fun e he => hu e (by simp [he])
   obtain ⟨e, he, hf, hr⟩ := h
   rcases List.mem_cons.1 he with rfl | he
   ·rw [hf, Nat.beq_refl] at hb; cases hb
   ·exact ⟨e, he, hf, hr⟩
  | true =>
   have hf := Nat.eq_of_beq_eq_true hb
   rcases hu a (by simp) hf with h1 | h1
   ·simp only [h1]
    refine Jbd (L := L) ?_ fun e he => hu e (by simp [he])
    obtain ⟨e, he, hf', hr⟩ := h
    rcases List.mem_cons.1 he with rfl | he
    ·rw [h1] at hr; cases hr
    ·exact ⟨e, he, hf', hr⟩
   ·simp only [h1]
theorem JeG {k : IntKind} {a b : Nat} : Jee [.int k (a : Int)] [.int k (b : Int)] = Nat.beq a b := by
 have hk : Nat.beq (kc k) (kc k) = true := Nat.beq_refl _
 show (match (true : Bool) with | true => JiD (.int k (a : Int)) (.int k (b : Int)) | false => false) = _
 show (match Nat.beq a b with | true => Nat.beq (kc k) (kc k) | false => false) = _
 cases Nat.beq a b with
 | true => exact hk
 | false => rfl
end Go.Vm
namespace Go.Vm
open Go Go.Proofs Go.Pa
def JhF : Tr Bx := ((.nil : Tr Bx).put 0 (.cells oldsV 9 false (some 0))).put 1 (.cells [.int .u32 0, .int .i32 0, .int .u32 0, .nili, .ms 0 0 4 1 none] 109 true (some 0))
def onceS : St := ⟨2, JhF⟩
def Jim (b : Option Bx) (l : List V) (e : TypeId) (fl : Bool) (fz : Option Nat) : Bool := match b with
 | some (.cells l' e' fl' fz') => Jdq 1000 l' l && (Nat.beq e' e && ((fl' == fl) && (fz' == fz)))
 | _ => false
theorem Jdg {b : Option Bx} {l : List V} {e : TypeId} {fl : Bool} {fz : Option Nat} (h : Jim b l e fl fz = true) : b = some (.cells l e fl fz) := by
 unfold Jim at h
 split at h
 ·simp only [Bool.and_eq_true] at h
  obtain ⟨h1, h2, h3, h4⟩ := h
  rw [Jce _ _ _ h1, Nat.eq_of_beq_eq_true h2, eq_of_beq h3, eq_of_beq h4]
 ·cases h
noncomputable def JjD : Res → Bool
 | .call (.val v s) => veq 50 v (.tup []) && (Jim (s.box.get 0) oldsV 9 false (some 0) && (Jim (s.box.get 1) [.int .u32 1, .int .i32 0, .int .u32 0, .iface 154 (.ptr 3 0), .nils] 109 true (some 0) &&
   (Jim (s.box.get 2) [.str (S.ofList [10]), .str (S.ofList [92])] 9 true (some 0) && (Jim (s.box.get 3) (TC 6 9 2) 153 true (some 0) &&
   (Jim (s.box.get 6) [.int .u8 92, .int .u8 110] 5 false none && Jim (s.box.get 9) [.int .u8 92, .int .u8 92] 5 false none)))))
 | _ => false
theorem JjE {z : Res} (h : JjD z = true) : ∃ s1, z = .call (.val (.tup []) s1) ∧ s1.box.get 0 = some (.cells oldsV 9 false (some 0)) ∧ s1.box.get 1 = some (.cells [.int .u32 1, .int .i32 0, .int .u32 0, .iface 154 (.ptr 3 0), .nils] 109 true (some 0)) ∧
  s1.box.get 2 = some (.cells [.str (S.ofList [10]), .str (S.ofList [92])] 9 true (some 0)) ∧ s1.box.get 3 = some (.cells (TC 6 9 2) 153 true (some 0)) ∧ s1.box.get 6 = some (.cells [.int .u8 92, .int .u8 110] 5 false none) ∧ s1.box.get 9 = some (.cells [.int .u8 92, .int .u8 92] 5 false none) := by
 unfold JjD at h
 split at h
 ·rename_i v s1
  simp only [Bool.and_eq_true] at h
  obtain ⟨h0, h1, h2, h3, h4, h5, h6⟩ := h
  exact ⟨s1, by rw [JdG _ _ _ h0], Jdg h1, Jdg h2, Jdg h3, Jdg h4, Jdg h5, Jdg h6⟩
 ·cases h
def Jau (st : St) (r : Nat) : St := ⟨st.ctr + 4, ((((st.box.put r (.cells [.int .u32 1, .int .i32 0, .int .u32 0, .iface 154 (.ptr st.ctr 0), .nils] 109 true (some 0))).put st.ctr (.cells (TC (st.ctr + 2) (st.ctr + 3) (st.ctr + 1)) 153 true (some 0))).put (st.ctr + 1) (.cells [.str (S.ofList [10]), .str (S.ofList [92])] 9 true (some 0))).put (st.ctr + 2) (.cells [.int .u8 92, .int .u8 110] 5 false none)).put (st.ctr + 3) (.cells [.int .u8 92, .int .u8 92] 5 false none)⟩
open Classical in
noncomputable def onceRule : Rule := ⟨77, fun args st => match args with
 | [.ptr r 0, .fn 78 [.ptr r' 0] []] => if r' = r ∧ ∃ o, Raw st r o then some (.tup [], Jau st r) else none
 | _ => none⟩
theorem Jin {args : List V} {st : St} {p : V × St} (h : onceRule.run args st = some p) : ∃ r o, args = [.ptr r 0, .fn 78 [.ptr r 0] []] ∧ Raw st r o ∧ p = (.tup [], Jau st r) := by
 simp only [onceRule] at h
 split at h
 ·split at h
  ·rename_i hc
   obtain ⟨rfl, o, ho⟩ := hc
   exact ⟨_, o, rfl, ho, (Option.some.inj h).symm⟩
  ·cases h
 ·cases h
theorem Jio {st : St} {r o : Nat} (h : Raw st r o) : onceRule.run [.ptr r 0, .fn 78 [.ptr r 0] []] st = some (.tup [], Jau st r) := by
 simp only [onceRule]
 rw [if_pos ⟨rfl, o, h⟩]
theorem Jk3 : JjD (@X Tryz.prog Memo.none 1000000 (.call patGl 77 [.ptr 1 0, .fn 78 [.ptr 1 0] []]) onceS) = true := by kernel_rfl
theorem Jl7 : ∃ N s1, @X Tryz.prog Memo.none N (.call patGl 77 [.ptr 1 0, .fn 78 [.ptr 1 0] []]) onceS = .call (.val (.tup []) s1) ∧ s1.box.get 0 = some (.cells oldsV 9 false (some 0)) ∧ s1.box.get 1 = some (.cells [.int .u32 1, .int .i32 0, .int .u32 0, .iface 154 (.ptr 3 0), .nils] 109 true (some 0)) ∧
  s1.box.get 2 = some (.cells [.str (S.ofList [10]), .str (S.ofList [92])] 9 true (some 0)) ∧ s1.box.get 3 = some (.cells (TC 6 9 2) 153 true (some 0)) ∧ s1.box.get 6 = some (.cells [.int .u8 92, .int .u8 110] 5 false none) ∧ s1.box.get 9 = some (.cells [.int .u8 92, .int .u8 92] 5 false none) := ⟨1000000, JjE Jk3⟩
def Jl8 (r o c : Nat) : Nat → Nat
 | 0 => o
 | 1 => r
 | 2 => c + 1
 | 3 => c
 | 6 => c + 2
 | 9 => c + 3
 | _ => 0
def Jkx (i : Nat) : Bool := Nat.beq i 0 || Nat.beq i 1
def Jky (i : Nat) : Bool := Nat.beq i 0 || (Nat.beq i 1 || (Nat.beq i 2 || (Nat.beq i 3 || (Nat.beq i 6 || Nat.beq i 9))))
theorem Jcs {i : Nat} : Jkx i = true ↔ i = 0 ∨ i = 1 := by
 simp only [Jkx, Bool.or_eq_true, Nat.beq_eq]
theorem JeH {i : Nat} : Jky i = true ↔ i = 0 ∨ i = 1 ∨ i = 2 ∨ i = 3 ∨ i = 6 ∨ i = 9 := by
 simp only [Jky, Bool.or_eq_true, Nat.beq_eq]
theorem Jg2 {ρ : Nat → Nat} : ∀ l : List V, Jbm ρ l = l.map (JbS ρ)
 | [] => rfl
 | a :: l => by rw [Jbm, Jg2 l]; rfl
theorem Jip {p : Bool} {K : Nat → Bool} : ∀ {l : List V}, (∀ v ∈ l, inV p K v = true) → Jct p K l = true
 | [], _ => rfl
 | a :: l, h => by rw [Jct, h a (by simp), Jip fun v hv => h v (by simp [hv])]; rfl
set_option maxRecDepth 100000 in
theorem Jl9 {ρ : Nat → Nat} {b1 b2 a : Nat} : Jbm ρ (TC b1 b2 a) = TC (ρ b1) (ρ b2) (ρ a) := by
 rw [Jg2]
 unfold TC
 rw [List.map_append, List.map_map]
 congr 1
theorem Jpr {K : Nat → Bool} {b1 b2 a : Nat} (h1 : K b1 = true) (h2 : K b2 = true) (h3 : K a = true) : Jct false K (TC b1 b2 a) = true := Jip fun v hv => by
 unfold TC at hv
 rcases List.mem_append.1 hv with hv | hv
 ·obtain ⟨i, _, rfl⟩ := List.mem_map.1 hv
  unfold Jem
  split
  ·exact h1
  ·split
   ·exact h2
   ·rfl
 ·rw [List.mem_singleton.1 hv]; exact h3
theorem Jk4 : Jck Tryz.prog patGl onceRule := by
 intro args st v st' hr base g w cargs hgl hi hrs
 obtain ⟨r, o, rfl, hraw, hp⟩ := Jin hr
 obtain ⟨rfl, rfl⟩ := Prod.mk.inj hp
 obtain ⟨N, s1, hx, x0, x1, x2, x3, x6, x9⟩ := Jl7
 letI : Memo := Memo.none
 obtain ⟨rb, ob, rlt, olt, hne⟩ := hraw
 have g0 : onceS.box.get 0 = some (.cells oldsV 9 false (some 0)) := by simp [onceS, JhF, Tr.get_put]
 have g1 : onceS.box.get 1 = some (.cells [.int .u32 0, .int .i32 0, .int .u32 0, .nili, .ms 0 0 4 1 none] 109 true (some 0)) := by simp [onceS, JhF, Tr.get_put]
 have gn : ∀ i, i ≠ 0 → i ≠ 1 → onceS.box.get i = none := fun i h0 h1 => by simp [onceS, JhF, Tr.get_put, h0, h1]; rfl
 have fr : ∀ k, st.ctr ≤ k → st.box.get k = none := fun k hk => (hi.fresh k hk).2
 have bxr : ∀ i, (Jau st r).box.get i = if i = st.ctr + 3 then some (.cells [.int .u8 92, .int .u8 92] 5 false none) else if i = st.ctr + 2 then some (.cells [.int .u8 92, .int .u8 110] 5 false none) else if i = st.ctr + 1 then some (.cells [.str (S.ofList [10]), .str (S.ofList [92])] 9 true (some 0)) else if i = st.ctr then some (.cells (TC (st.ctr + 2) (st.ctr + 3) (st.ctr + 1)) 153 true (some 0)) else if i = r then some (.cells [.int .u32 1, .int .i32 0, .int .u32 0, .iface 154 (.ptr st.ctr 0), .nils] 109 true (some 0)) else st.box.get i := fun i => by
  simp only [Jau, Tr.get_put]
 have M : Moves onceS s1 Jkx Jky (Jl8 r o st.ctr) st (Jau st r) := {
  small := fun i h => by
   rcases Jcs.1 h with rfl | rfl
   ·exact ⟨by decide, by rw [g0]; simp⟩
   ·exact ⟨by decide, by rw [g1]; simp⟩
  all := fun i x h => by
   by_cases h0 : i = 0
   ·subst h0; rw [g0] at h; cases h; exact ⟨rfl, rfl, ob⟩
   ·by_cases h1 : i = 1
    ·subst h1; rw [g1] at h; cases h; exact ⟨rfl, rfl, rb⟩
    ·rw [gn i h0 h1] at h; cases h
  low := fun i h => by
   rcases Jcs.1 h with rfl | rfl
   ·exact olt
   ·exact rlt
  inj := fun i j hi hj he => by
   have hk : ∀ i, (Jkx i = true ∨ Jky i = true) → i = 0 ∨ i = 1 ∨ i = 2 ∨ i = 3 ∨ i = 6 ∨ i = 9 := fun i h => by
    rcases h with h | h
    ·rcases Jcs.1 h with h | h
     ·exact .inl h
     ·exact .inr (.inl h)
    ·exact JeH.1 h
   rcases hk i hi with rfl | rfl | rfl | rfl | rfl | rfl <;> rcases hk j hj with rfl | rfl | rfl | rfl | rfl | rfl <;> simp only [Jl8] at he <;> omega
  high := fun i h hk => by
   have h2 : 2 ≤ i := h
   rcases JeH.1 hk with rfl | rfl | rfl | rfl | rfl | rfl <;> simp only [Jl8, Jau] <;> omega
  kept := fun i x hk hb => by
   rcases JeH.1 hk with rfl | rfl | rfl | rfl | rfl | rfl
   ·rw [x0] at hb; cases hb
    refine ⟨rfl, ?_⟩
    show (Jau st r).box.get o = _
    rw [bxr, if_neg (by omega), if_neg (by omega), if_neg (by omega), if_neg (by omega), if_neg (Ne.symm hne), ob]; rfl
   ·rw [x1] at hb; cases hb
    refine ⟨rfl, ?_⟩
    show (Jau st r).box.get r = _
    rw [bxr, if_neg (by omega), if_neg (by omega), if_neg (by omega), if_neg (by omega), if_pos rfl]; rfl
   ·rw [x2] at hb; cases hb
    refine ⟨rfl, ?_⟩
    show (Jau st r).box.get (st.ctr + 1) = _
    rw [bxr, if_neg (by omega), if_neg (by omega), if_pos rfl]; rfl
   ·rw [x3] at hb; cases hb
    refine ⟨Jpr rfl rfl rfl, ?_⟩
    show (Jau st r).box.get st.ctr = _
    rw [bxr, if_neg (by omega), if_neg (by omega), if_neg (by omega), if_pos rfl, Jeg, Jl9]; rfl
   ·rw [x6] at hb; cases hb
    refine ⟨rfl, ?_⟩
    show (Jau st r).box.get (st.ctr + 2) = _
    rw [bxr, if_neg (by omega), if_pos rfl]; rfl
   ·rw [x9] at hb; cases hb
    refine ⟨rfl, ?_⟩
    show (Jau st r).box.get (st.ctr + 3) = _
    rw [bxr, if_pos rfl]; rfl
  gone := fun i hA h => by
   rcases Jcs.1 hA with rfl | rfl
   ·rcases h with h | h
    ·cases h
    ·rw [x0] at h; cases h
   ·rcases h with h | h
    ·cases h
    ·rw [x1] at h; cases h
  kA := fun i h hk => by
   have h2 : i < 2 := h
   exact Jcs.2 (by omega)
  rest := fun j hj h => by
   have h1 : r ≠ j := h 1 rfl
   rw [bxr, if_neg (by omega), if_neg (by omega), if_neg (by omega), if_neg (by omega), if_neg (Ne.symm h1)]
  new := fun j x hj hb => by
   rw [bxr] at hb
   by_cases h3 : j = st.ctr + 3
   ·subst h3; rw [if_pos rfl] at hb; cases hb
    exact ⟨9, _, by decide, rfl, rfl, x9, rfl⟩
   ·rw [if_neg h3] at hb
    by_cases h2 : j = st.ctr + 2
    ·subst h2; rw [if_pos rfl] at hb; cases hb
     exact ⟨6, _, by decide, rfl, rfl, x6, rfl⟩
    ·rw [if_neg h2] at hb
     by_cases h1 : j = st.ctr + 1
     ·subst h1; rw [if_pos rfl] at hb; cases hb
      exact ⟨2, _, by decide, rfl, rfl, x2, rfl⟩
     ·rw [if_neg h1] at hb
      by_cases h0 : j = st.ctr
      ·subst h0; rw [if_pos rfl] at hb; cases hb
       exact ⟨3, _, by decide, rfl, rfl, x3, by rw [Jeg, Jl9]; rfl⟩
      ·rw [if_neg h0, if_neg (by omega), fr j hj] at hb; cases hb
  ctr := by show st.ctr ≤ st.ctr + 4; omega }
 exact JpB Jcr (fun _ _ _ _ _ _ _ hv => by cases hv) trivial Jc1 hx M rfl rfl (fun i x h => by
  by_cases h0 : i = 0
  ·subst h0; decide
  ·by_cases h1 : i = 1
   ·subst h1; decide
   ·rw [gn i h0 h1] at h; cases h) base g w cargs hgl hi hrs
end Go.Vm
namespace Go.Vm
open Go Go.Proofs Go.Pa
noncomputable def patRules : List Rule := onceRule :: kSet.rule :: kBad.rule :: kAwake.rule :: kNums.map Ent.rule
theorem pat_rules : ∀ e ∈ patRules, Jck Tryz.prog patGl e :=
 JcK Jk4 (JcK kSet_ok.rule (JcK kBad_ok.rule (JcK kAwake_ok.rule (JjN Jl6))))
noncomputable abbrev patMemo : Memo := JeM patGl patRules
theorem Jaf {e : Rule} (h : e ∈ patRules) : e = onceRule ∨ e = kSet.rule ∨ e = kBad.rule ∨ e = kAwake.rule ∨ (∃ n, n < 256 ∧ e = (Jd3 n).rule) ∨ ∃ n, n < 256 ∧ e = (JbO n).rule := by
 unfold patRules at h
 rcases List.mem_cons.1 h with h | h
 ·exact .inl h
 rcases List.mem_cons.1 h with h | h
 ·exact .inr (.inl h)
 rcases List.mem_cons.1 h with h | h
 ·exact .inr (.inr (.inl h))
 rcases List.mem_cons.1 h with h | h
 ·exact .inr (.inr (.inr (.inl h)))
 obtain ⟨x, hx, rfl⟩ := List.mem_map.1 h
 unfold kNums at hx
 rcases List.mem_append.1 hx with hx | hx
 ·obtain ⟨n, hn, rfl⟩ := List.mem_map.1 hx
  exact .inr (.inr (.inr (.inr (.inl ⟨n, List.mem_range.1 hn, rfl⟩))))
 ·obtain ⟨n, hn, rfl⟩ := List.mem_map.1 hx
  exact .inr (.inr (.inr (.inr (.inr ⟨n, List.mem_range.1 hn, rfl⟩))))
theorem Jma {n : Nat} (h : n < 256) : (Jd3 n).rule ∈ patRules := by
 unfold patRules kNums
 simp only [List.mem_cons, List.mem_map, List.mem_append, List.mem_range]
 exact .inr (.inr (.inr (.inr ⟨Jd3 n, .inl ⟨n, h, rfl⟩, rfl⟩)))
theorem JjF {n : Nat} (h : n < 256) : (JbO n).rule ∈ patRules := by
 unfold patRules kNums
 simp only [List.mem_cons, List.mem_map, List.mem_append, List.mem_range]
 exact .inr (.inr (.inr (.inr ⟨JbO n, .inr ⟨n, h, rfl⟩, rfl⟩)))
theorem Jd4 (e : Ent) (args : List V) (st : St) : e.rule.run args st = match Jee args e.args with
 | true => some (e.v, st)
 | false => none := rfl
theorem Jmb {a b : Nat} (h : a ≠ b) : Nat.beq a b = false := by
 cases hb : Nat.beq a b with
 | false => rfl
 | true => exact absurd (Nat.eq_of_beq_eq_true hb) h
theorem pat_ny : @NY patMemo := by
 letI : Memo := patMemo
 refine ⟨fun f h91 h89 h a st => ?_⟩
 show (mfF f patRules).run a st = none
 have ne : f ≠ 84 ∧ f ≠ 82 ∧ f ≠ 7 ∧ f ≠ 77 ∧ f ≠ 23 ∧ f ≠ 45 := by
  refine ⟨?_, ?_, ?_, ?_, ?_, ?_⟩
  ·rintro rfl; cases h91
  ·rintro rfl; cases h89
  ·rintro rfl; cases h
  ·rintro rfl; cases h
  ·rintro rfl; cases h
  ·rintro rfl; cases h
 refine Jc2 fun e he => .inl (Jmb ?_)
 rcases Jaf he with rfl | rfl | rfl | rfl | ⟨n, _, rfl⟩ | ⟨n, _, rfl⟩
 ·exact Ne.symm ne.2.2.2.1
 ·exact Ne.symm ne.1
 ·exact Ne.symm ne.2.1
 ·exact Ne.symm ne.2.2.1
 ·exact Ne.symm ne.2.2.2.2.1
 ·exact Ne.symm ne.2.2.2.2.2
theorem Jkz {e : Ent} {n m : Nat} {v : V} {st : St} (ha : e.args = [.int .i64 (m : Int)]) (hv : m = n → e.v = v) : e.rule.run [.int .i64 (n : Int)] st = none ∨ e.rule.run [.int .i64 (n : Int)] st = some (v, st) := by
 rw [Jd4, ha, JeG]
 cases hb : Nat.beq n m with
 | false => exact .inl rfl
 | true => exact .inr (by rw [hv (Nat.eq_of_beq_eq_true hb).symm])
theorem Jmc {e : Ent} {n m : Nat} {st : St} (ha : e.args = [.int .i64 (m : Int)]) (hne : n ≠ m) : e.rule.run [.int .i64 (n : Int)] st = none := by
 rw [Jd4, ha, JeG, Jmb hne]
theorem Jiq {e : Ent} {n : Nat} {st : St} (ha : e.args = [.int .i64 (n : Int)]) : e.rule.run [.int .i64 (n : Int)] st = some (e.v, st) := by
 rw [Jd4, ha, JeG, Nat.beq_refl]
theorem pat_nz : @NZ patMemo := by
 letI : Memo := patMemo
 refine ⟨fun n st hn => ⟨Jkw n, ?_, Jl5 n hn⟩, fun n st hn => ⟨S.ofList (QW n), ?_, S.toList_ofList _⟩, fun n st hn => ?_, fun n st hn => ?_⟩
 ·show (mfF 23 patRules).run _ st = _
  refine Jbd ⟨(Jd3 n).rule, Jma (by omega), rfl, Jiq rfl⟩ fun e he hf => ?_
  rcases Jaf he with rfl | rfl | rfl | rfl | ⟨m, _, rfl⟩ | ⟨m, _, rfl⟩
  ·cases hf
  ·cases hf
  ·cases hf
  ·cases hf
  ·exact Jkz (m := m) rfl fun h => by subst h; rfl
  ·cases hf
 ·show (mfF 45 patRules).run _ st = _
  refine Jbd ⟨(JbO n).rule, JjF (by omega), rfl, Jiq rfl⟩ fun e he hf => ?_
  rcases Jaf he with rfl | rfl | rfl | rfl | ⟨m, _, rfl⟩ | ⟨m, _, rfl⟩
  ·cases hf
  ·cases hf
  ·cases hf
  ·cases hf
  ·cases hf
  ·exact Jkz (m := m) rfl fun h => by subst h; rfl
 ·show (mfF 23 patRules).run _ st = _
  refine Jc2 fun e he => ?_
  rcases Jaf he with rfl | rfl | rfl | rfl | ⟨m, hm, rfl⟩ | ⟨m, _, rfl⟩
  ·exact .inl rfl
  ·exact .inl rfl
  ·exact .inl rfl
  ·exact .inl rfl
  ·exact .inr (Jmc (m := m) rfl (by omega))
  ·exact .inl rfl
 ·show (mfF 45 patRules).run _ st = _
  refine Jc2 fun e he => ?_
  rcases Jaf he with rfl | rfl | rfl | rfl | ⟨m, _, rfl⟩ | ⟨m, hm, rfl⟩
  ·exact .inl rfl
  ·exact .inl rfl
  ·exact .inl rfl
  ·exact .inl rfl
  ·exact .inl rfl
  ·exact .inr (Jmc (m := m) rfl (by omega))
theorem pat_na : @NA patMemo := by
 letI : Memo := patMemo
 refine ⟨fun st => ?_⟩
 show (mfF 7 patRules).run [] st = _
 refine Jbd ⟨kAwake.rule, by unfold patRules; simp, rfl, rfl⟩ fun e he hf => ?_
 rcases Jaf he with rfl | rfl | rfl | rfl | ⟨m, _, rfl⟩ | ⟨m, _, rfl⟩
 ·cases hf
 ·cases hf
 ·cases hf
 ·exact .inr rfl
 ·cases hf
 ·cases hf
theorem pat_no : @NO patMemo := by
 letI : Memo := patMemo
 refine ⟨fun st r g l hb => ?_, fun st r o h => ?_⟩
 ·show (mfF 77 patRules).run _ st = _
  refine Jc2 fun e he => ?_
  rcases Jaf he with rfl | rfl | rfl | rfl | ⟨m, _, rfl⟩ | ⟨m, _, rfl⟩
  ·right
   cases h : onceRule.run [.ptr r 0, g] st with
   | none => rfl
   | some p =>
    obtain ⟨r', o, ha, hr, _⟩ := Jin h
    injection ha with h1 _
    injection h1 with h1 _
    subst h1
    have := hr.rb
    rw [hb] at this
    simp at this
  ·exact .inl rfl
  ·exact .inl rfl
  ·exact .inl rfl
  ·exact .inl rfl
  ·exact .inl rfl
 ·have hbx : ∀ i, (Jau st r).box.get i = if i = st.ctr + 3 then some (.cells [.int .u8 92, .int .u8 92] 5 false none) else if i = st.ctr + 2 then some (.cells [.int .u8 92, .int .u8 110] 5 false none) else if i = st.ctr + 1 then some (.cells [.str (S.ofList [10]), .str (S.ofList [92])] 9 true (some 0)) else if i = st.ctr then some (.cells (TC (st.ctr + 2) (st.ctr + 3) (st.ctr + 1)) 153 true (some 0)) else if i = r then some (.cells [.int .u32 1, .int .i32 0, .int .u32 0, .iface 154 (.ptr st.ctr 0), .nils] 109 true (some 0)) else st.box.get i := fun i => by
   simp only [Jau, Tr.get_put]
  have hrl := h.rlt
  have hc : (Jau st r).ctr = st.ctr + 4 := rfl
  refine ⟨Jau st r, st.ctr, st.ctr + 1, st.ctr + 2, st.ctr + 3, ?_, ⟨?_, by omega, ⟨?_, ?_, ?_, ?_, by omega, by omega, by omega, by omega⟩⟩, by omega, fun i hi hn => ?_, by omega, by omega, by omega, by omega⟩
  ·show (mfF 77 patRules).run _ st = _
   refine Jbd ⟨onceRule, by unfold patRules; simp, rfl, Jio h⟩ fun e he hf => ?_
   rcases Jaf he with rfl | rfl | rfl | rfl | ⟨m, _, rfl⟩ | ⟨m, _, rfl⟩
   ·exact .inr (Jio h)
   ·cases hf
   ·cases hf
   ·cases hf
   ·cases hf
   ·cases hf
  ·rw [hbx, if_neg (by omega), if_neg (by omega), if_neg (by omega), if_neg (by omega), if_pos rfl]
  ·rw [hbx, if_neg (by omega), if_neg (by omega), if_neg (by omega), if_pos rfl]
  ·rw [hbx, if_neg (by omega), if_neg (by omega), if_pos rfl]
  ·rw [hbx, if_neg (by omega), if_pos rfl]
  ·rw [hbx, if_pos rfl]
  ·rw [hbx, if_neg (by omega), if_neg (by omega), if_neg (by omega), if_neg (by omega), if_neg hn]
theorem pat_hits : @Hits patMemo patGl asciiL := by
 letI : Memo := patMemo
 refine ⟨Jja, fun i hi => Jjb hi, Jjc, fun st => Q1 (Jdb (v := .tup [.agg asciiL, .bool true]) ?_), fun st => Q1 (Jdb (v := .int .i64 (-1)) ?_), fun c st hc => ?_⟩
 ·show (mfF 84 patRules).run _ st = _
  refine Jbd ⟨kSet.rule, by unfold patRules; simp, rfl, rfl⟩ fun e he hf => ?_
  rcases Jaf he with rfl | rfl | rfl | rfl | ⟨m, _, rfl⟩ | ⟨m, _, rfl⟩
  ·cases hf
  ·exact .inr rfl
  ·cases hf
  ·cases hf
  ·cases hf
  ·cases hf
 ·show (mfF 82 patRules).run _ st = _
  refine Jbd ⟨kBad.rule, by unfold patRules; simp, rfl, rfl⟩ fun e he hf => ?_
  rcases Jaf he with rfl | rfl | rfl | rfl | ⟨m, _, rfl⟩ | ⟨m, _, rfl⟩
  ·cases hf
  ·cases hf
  ·exact .inr rfl
  ·cases hf
  ·cases hf
  ·cases hf
 ·show (mfF 82 patRules).run _ st = _
  refine Jc2 fun e he => ?_
  rcases Jaf he with rfl | rfl | rfl | rfl | ⟨m, _, rfl⟩ | ⟨m, _, rfl⟩
  ·exact .inl rfl
  ·exact .inl rfl
  ·right
   rw [Jd4]
   cases ha : Jee [V.str specialS, .int .i32 (c : Int)] kBad.args with
   | false => rfl
   | true =>
    have h1 := Jgb ha
    injection h1 with _ h1
    injection h1 with h1 _
    injection h1 with _ h1
    omega
  ·exact .inl rfl
  ·exact .inl rfl
  ·exact .inl rfl
end Go.Vm
namespace Go.Vm
open Go Go.Proofs Go.RowKit Go.Pa
set_option maxRecDepth 100000
theorem JkA {α : Type} {f : α → List V} {Q : α → Prop} : ∀ {ls : List (List V)}, (∀ l ∈ ls, ∃ a, l = f a ∧ Q a) → ∃ al : List α, ls = al.map f ∧ ∀ a ∈ al, Q a
 | [], _ => ⟨[], rfl, fun a h => by simp at h⟩
 | l :: ls, h => by
  obtain ⟨a, rfl, ha⟩ := h l (by simp)
  obtain ⟨al, he, hal⟩ := JkA (ls := ls) (fun l hl => h l (List.mem_cons_of_mem _ hl))
  subst he
  exact ⟨a :: al, rfl, fun b hb => by
   rcases List.mem_cons.1 hb with rfl | hb
   ·exact ha
   ·exact hal b hb⟩
theorem Jmd {α : Type} {f : α → List V} {Q : α → Prop} {n : Nat} {t e : TypeId} {vs : List V} (hu : Tryz.prog.underlying t = some (.slice e)) (h : Shp Tryz.prog (n + 1) t vs)
  (hp : ∀ l, Shp Tryz.prog n e l → ∃ a, l = f a ∧ Q a) : ∃ x al, vs = [x] ∧ Row f x al ∧ ∀ a ∈ al, Q a := by
 simp only [Shp, hu] at h
 rcases h with rfl | ⟨ls, rfl, _, hls⟩
 ·exact ⟨.nils, [], rfl, .nils, fun a ha => by simp at ha⟩
 ·obtain ⟨al, rfl, hal⟩ := JkA (f := f) (Q := Q) (fun l hl => hp l (hls l hl))
  have e3 : (al.map f).flatten = al.flatMap f := (List.flatMap_def ..).symm
  refine ⟨_, al, rfl, ?_, hal⟩
  rw [e3, List.length_map]
  exact .sl al false
theorem JnJ {n : Nat} {vs : List V} (h : Shp Tryz.prog n 22 vs) : ∃ x l, vs = [x] ∧ Row sC x l := by
 cases n with
 | zero => exact h.elim
 | succ n =>
  obtain ⟨x, l, h1, h2, _⟩ := Jmd (f := sC) (Q := fun _ => True) Tryz.underlying22 h (fun l hl => by
   cases n with
   | zero => exact hl.elim
   | succ n =>
    simp only [Shp, Tryz.underlying9] at hl
    obtain ⟨s, rfl, _⟩ := hl
    exact ⟨s, rfl, trivial⟩)
  exact ⟨x, l, h1, h2⟩
theorem Jps {i : Int} (h : (Lit.int .u8 i).wf = true) : ∃ k : Nat, i = (k : Int) ∧ k < 256 := by
 have h2 : 0 ≤ i ∧ i < 256 := by
  simp only [Lit.wf, Bool.and_eq_true, decide_eq_true_eq] at h
  have e1 : IntKind.u8.min = 0 := by decide
  have e2 : IntKind.u8.max = 255 := by decide
  omega
 exact ⟨i.toNat, by omega, by omega⟩
end Go.Vm
