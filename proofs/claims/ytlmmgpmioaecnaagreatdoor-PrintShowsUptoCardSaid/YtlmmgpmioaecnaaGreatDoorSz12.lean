/- The first call of a replacer builds it: a run in a small state, carried over. -/
import Derived.Test.YtlmmgpmioaecnaaGreatDoorSz11
import Derived.Test.YtlmmgpmioaecnaaGreatDoorSz00
import Derived.Test.YtlmmgpmioaecnaaGreatDoorVmLaid
import Derived.ChangeShapes
import Derived.Test.YtlmmgpmioaecnaaGreatDoorRows
namespace Go.Vm
open Go Go.Proofs Go.Sy
set_option maxRecDepth 100000
def JgW : Tr Bx := ((.nil : Tr Bx).put 0 (.cells oldsV 9 false (some 0))).put 1 (.cells [.int .u32 0, .int .i32 0, .int .u32 0, .nili, .ms 0 0 8 1 none] 149 true (some 0))
def onceS : St := ⟨2, JgW⟩
def Jgb (b : Option Bx) (l : List V) (e : TypeId) (fl : Bool) (fz : Option Nat) : Bool := match b with
 | some (.cells l' e' fl' fz') => Jdm 1000 l' l && (Nat.beq e' e && ((fl' == fl) && (fz' == fz)))
 | _ => false
theorem JbW {b : Option Bx} {l : List V} {e : TypeId} {fl : Bool} {fz : Option Nat} (h : Jgb b l e fl fz = true) : b = some (.cells l e fl fz) := by
 unfold Jgb at h
 split at h
 ·simp only [Bool.and_eq_true] at h
  obtain ⟨h1, h2, h3, h4⟩ := h
  rw [Jb1 _ _ _ h1, Nat.eq_of_beq_eq_true h2, eq_of_beq h3, eq_of_beq h4]
 ·cases h
def bxR (i : Nat) : Nat := if i = 96 then 6 else if i = 92 then 9 else if i = 34 then 12 else 15
noncomputable def JiJ : Res → Bool
 | .call (.val v s) => veq 50 v (.tup []) && (Jgb (s.box.get 0) oldsV 9 false (some 0) && (Jgb (s.box.get 1) [.int .u32 1, .int .i32 0, .int .u32 0, .iface 181 (.ptr 3 0), .nils] 149 true (some 0) &&
   (Jgb (s.box.get 2) (tqS.map .str) 9 true (some 0) && (Jgb (s.box.get 3) (TC bxR 2) 180 true (some 0) &&
   (Jgb (s.box.get 6) [.int .u8 92, .int .u8 96] 5 false none && (Jgb (s.box.get 9) [.int .u8 92, .int .u8 92] 5 false none && (Jgb (s.box.get 12) [.int .u8 92, .int .u8 34] 5 false none && Jgb (s.box.get 15) [.int .u8 92, .int .u8 36] 5 false none)))))))
 | _ => false
theorem JiK {z : Res} (h : JiJ z = true) : ∃ s1, z = .call (.val (.tup []) s1) ∧ s1.box.get 0 = some (.cells oldsV 9 false (some 0)) ∧ s1.box.get 1 = some (.cells [.int .u32 1, .int .i32 0, .int .u32 0, .iface 181 (.ptr 3 0), .nils] 149 true (some 0)) ∧
  s1.box.get 2 = some (.cells (tqS.map .str) 9 true (some 0)) ∧ s1.box.get 3 = some (.cells (TC bxR 2) 180 true (some 0)) ∧ s1.box.get 6 = some (.cells [.int .u8 92, .int .u8 96] 5 false none) ∧ s1.box.get 9 = some (.cells [.int .u8 92, .int .u8 92] 5 false none) ∧ s1.box.get 12 = some (.cells [.int .u8 92, .int .u8 34] 5 false none) ∧ s1.box.get 15 = some (.cells [.int .u8 92, .int .u8 36] 5 false none) := by
 unfold JiJ at h
 split at h
 ·rename_i v s1
  simp only [Bool.and_eq_true] at h
  obtain ⟨h0, h1, h2, h3, h4, h5, h6, h7, h8⟩ := h
  exact ⟨s1, by rw [JdJ _ _ _ h0], JbW h1, JbW h2, JbW h3, JbW h4, JbW h5, JbW h6, JbW h7, JbW h8⟩
 ·cases h
theorem JkB : JiJ (@X Tryz.prog Memo.none 1000000 (.call prGl 124 [.ptr 1 0, .fn 125 [.ptr 1 0] []]) onceS) = true := by kernel_rfl
def bxA (c : Nat) (i : Nat) : Nat := if i = 96 then c + 2 else if i = 92 then c + 3 else if i = 34 then c + 4 else c + 5
def QF (st : St) (r : Nat) : St := ⟨st.ctr + 6, ((((((st.box.put r (.cells [.int .u32 1, .int .i32 0, .int .u32 0, .iface 181 (.ptr st.ctr 0), .nils] 149 true (some 0))).put st.ctr (.cells (TC (bxA st.ctr) (st.ctr + 1)) 180 true (some 0))).put (st.ctr + 1) (.cells (tqS.map .str) 9 true (some 0))).put (st.ctr + 2) (.cells [.int .u8 92, .int .u8 96] 5 false none)).put (st.ctr + 3) (.cells [.int .u8 92, .int .u8 92] 5 false none)).put (st.ctr + 4) (.cells [.int .u8 92, .int .u8 34] 5 false none)).put (st.ctr + 5) (.cells [.int .u8 92, .int .u8 36] 5 false none)⟩
open Classical in
noncomputable def onceRule : Rule := ⟨124, fun args st => match args with
 | [.ptr r 0, .fn 125 [.ptr r' 0] []] => if r' = r ∧ ∃ o, Raw st r o then some (.tup [], QF st r) else none
 | _ => none⟩
theorem JhB {args : List V} {st : St} {p : V × St} (h : onceRule.run args st = some p) : ∃ r o, args = [.ptr r 0, .fn 125 [.ptr r 0] []] ∧ Raw st r o ∧ p = (.tup [], QF st r) := by
 simp only [onceRule] at h
 split at h
 ·split at h
  ·rename_i hc
   obtain ⟨rfl, o, ho⟩ := hc
   exact ⟨_, o, rfl, ho, (Option.some.inj h).symm⟩
  ·cases h
 ·cases h
theorem JhC {st : St} {r o : Nat} (h : Raw st r o) : onceRule.run [.ptr r 0, .fn 125 [.ptr r 0] []] st = some (.tup [], QF st r) := by
 simp only [onceRule]
 rw [if_pos ⟨rfl, o, h⟩]
theorem JlD : ∃ N s1, @X Tryz.prog Memo.none N (.call prGl 124 [.ptr 1 0, .fn 125 [.ptr 1 0] []]) onceS = .call (.val (.tup []) s1) ∧ s1.box.get 0 = some (.cells oldsV 9 false (some 0)) ∧ s1.box.get 1 = some (.cells [.int .u32 1, .int .i32 0, .int .u32 0, .iface 181 (.ptr 3 0), .nils] 149 true (some 0)) ∧
  s1.box.get 2 = some (.cells (tqS.map .str) 9 true (some 0)) ∧ s1.box.get 3 = some (.cells (TC bxR 2) 180 true (some 0)) ∧ s1.box.get 6 = some (.cells [.int .u8 92, .int .u8 96] 5 false none) ∧ s1.box.get 9 = some (.cells [.int .u8 92, .int .u8 92] 5 false none) ∧ s1.box.get 12 = some (.cells [.int .u8 92, .int .u8 34] 5 false none) ∧ s1.box.get 15 = some (.cells [.int .u8 92, .int .u8 36] 5 false none) :=
 ⟨1000000, JiK JkB⟩
def JjP (r o c : Nat) : Nat → Nat
 | 0 => o
 | 1 => r
 | 2 => c + 1
 | 3 => c
 | 6 => c + 2
 | 9 => c + 3
 | 12 => c + 4
 | 15 => c + 5
 | _ => 0
def JjQ (i : Nat) : Bool := Nat.beq i 0 || Nat.beq i 1
def JhD (i : Nat) : Bool := Nat.beq i 0 || (Nat.beq i 1 || (Nat.beq i 2 || (Nat.beq i 3 || (Nat.beq i 6 || (Nat.beq i 9 || (Nat.beq i 12 || Nat.beq i 15))))))
theorem Jcf {i : Nat} : JjQ i = true ↔ i = 0 ∨ i = 1 := by
 simp only [JjQ, Bool.or_eq_true, Nat.beq_eq]
theorem Jeg {i : Nat} : JhD i = true ↔ i = 0 ∨ i = 1 ∨ i = 2 ∨ i = 3 ∨ i = 6 ∨ i = 9 ∨ i = 12 ∨ i = 15 := by
 simp only [JhD, Bool.or_eq_true, Nat.beq_eq]
theorem Jgn {ρ : Nat → Nat} : ∀ l : List V, Ja3 ρ l = l.map (JbC ρ)
 | [] => rfl
 | a :: l => by rw [Ja3, Jgn l]; rfl
theorem JhE {p : Bool} {K : Nat → Bool} : ∀ {l : List V}, (∀ v ∈ l, inV p K v = true) → Jch p K l = true
 | [], _ => rfl
 | a :: l, h => by rw [Jch, h a (by simp), JhE fun v hv => h v (by simp [hv])]; rfl
theorem JlE {ρ : Nat → Nat} {bx : Nat → Nat} {a : Nat} : Ja3 ρ (TC bx a) = TC (fun i => ρ (bx i)) (ρ a) := by
 rw [Jgn]
 unfold TC
 rw [List.map_append, List.map_map]
 congr 1
theorem JoU {K : Nat → Bool} {bx : Nat → Nat} {a : Nat} (h1 : ∀ i, K (bx i) = true) (h3 : K a = true) : Jch false K (TC bx a) = true := JhE fun v hv => by
 unfold TC at hv
 rcases List.mem_append.1 hv with hv | hv
 ·obtain ⟨i, _, rfl⟩ := List.mem_map.1 hv
  unfold JiC
  cases isQ (UInt8.ofNat i)
  ·rfl
  ·exact h1 i
 ·rw [List.mem_singleton.1 hv]; exact h3
theorem JoV (i : Nat) : JhD (bxR i) = true := by
 unfold bxR
 split
 ·rfl
 split
 ·rfl
 split <;> rfl
theorem JnZ (r o c : Nat) : (fun i => JjP r o c (bxR i)) = bxA c := by
 funext i
 unfold bxR bxA
 split
 ·rfl
 split
 ·rfl
 split <;> rfl
end Go.Vm
namespace Go.Vm
open Go Go.Proofs Go.Sy
set_option maxRecDepth 100000
theorem JkC : JcA Tryz.prog prGl onceRule := by
 intro args st v st' hr base g w cargs hgl hi hrs
 obtain ⟨r, o, rfl, hraw, hp⟩ := JhB hr
 obtain ⟨rfl, rfl⟩ := Prod.mk.inj hp
 obtain ⟨N, s1, hx, x0, x1, x2, x3, x6, x9, x12, x15⟩ := JlD
 letI : Memo := Memo.none
 obtain ⟨rb, ob, rlt, olt, hne⟩ := hraw
 have g0 : onceS.box.get 0 = some (.cells oldsV 9 false (some 0)) := by simp [onceS, JgW, Tr.get_put]
 have g1 : onceS.box.get 1 = some (.cells [.int .u32 0, .int .i32 0, .int .u32 0, .nili, .ms 0 0 8 1 none] 149 true (some 0)) := by simp [onceS, JgW, Tr.get_put]
 have gn : ∀ i, i ≠ 0 → i ≠ 1 → onceS.box.get i = none := fun i h0 h1 => by simp [onceS, JgW, Tr.get_put, h0, h1]; rfl
 have fr : ∀ k, st.ctr ≤ k → st.box.get k = none := fun k hk => (hi.fresh k hk).2
 have bxr : ∀ i, (QF st r).box.get i = if i = st.ctr + 5 then some (.cells [.int .u8 92, .int .u8 36] 5 false none) else if i = st.ctr + 4 then some (.cells [.int .u8 92, .int .u8 34] 5 false none) else if i = st.ctr + 3 then some (.cells [.int .u8 92, .int .u8 92] 5 false none) else if i = st.ctr + 2 then some (.cells [.int .u8 92, .int .u8 96] 5 false none) else if i = st.ctr + 1 then some (.cells (tqS.map .str) 9 true (some 0)) else if i = st.ctr then some (.cells (TC (bxA st.ctr) (st.ctr + 1)) 180 true (some 0)) else if i = r then some (.cells [.int .u32 1, .int .i32 0, .int .u32 0, .iface 181 (.ptr st.ctr 0), .nils] 149 true (some 0)) else st.box.get i := fun i => by
  simp only [QF, Tr.get_put]
 have M : Moves onceS s1 JjQ JhD (JjP r o st.ctr) st (QF st r) := {
  small := fun i h => by
   rcases Jcf.1 h with rfl | rfl
   ·exact ⟨by decide, by rw [g0]; simp⟩
   ·exact ⟨by decide, by rw [g1]; simp⟩
  all := fun i x h => by
   by_cases h0 : i = 0
   ·subst h0; rw [g0] at h; cases h; exact ⟨rfl, rfl, ob⟩
   ·by_cases h1 : i = 1
    ·subst h1; rw [g1] at h; cases h; exact ⟨rfl, rfl, rb⟩
    ·rw [gn i h0 h1] at h; cases h
  low := fun i h => by
   rcases Jcf.1 h with rfl | rfl
   ·exact olt
   ·exact rlt
  inj := fun i j hi hj he => by
   have hk : ∀ i, (JjQ i = true ∨ JhD i = true) → i = 0 ∨ i = 1 ∨ i = 2 ∨ i = 3 ∨ i = 6 ∨ i = 9 ∨ i = 12 ∨ i = 15 := fun i h => by
    rcases h with h | h
    ·rcases Jcf.1 h with h | h
     ·exact .inl h
     ·exact .inr (.inl h)
    ·exact Jeg.1 h
   rcases hk i hi with rfl | rfl | rfl | rfl | rfl | rfl | rfl | rfl <;> rcases hk j hj with rfl | rfl | rfl | rfl | rfl | rfl | rfl | rfl <;> simp only [JjP] at he <;> omega
  high := fun i h hk => by
   have h2 : 2 ≤ i := h
   rcases Jeg.1 hk with rfl | rfl | rfl | rfl | rfl | rfl | rfl | rfl <;> simp only [JjP, QF] <;> omega
  kept := fun i x hk hb => by
   rcases Jeg.1 hk with rfl | rfl | rfl | rfl | rfl | rfl | rfl | rfl
   ·rw [x0] at hb; cases hb
    refine ⟨rfl, ?_⟩
    show (QF st r).box.get o = _
    rw [bxr, if_neg (by omega), if_neg (by omega), if_neg (by omega), if_neg (by omega), if_neg (by omega), if_neg (by omega), if_neg (Ne.symm hne), ob]; rfl
   ·rw [x1] at hb; cases hb
    refine ⟨rfl, ?_⟩
    show (QF st r).box.get r = _
    rw [bxr, if_neg (by omega), if_neg (by omega), if_neg (by omega), if_neg (by omega), if_neg (by omega), if_neg (by omega), if_pos rfl]; rfl
   ·rw [x2] at hb; cases hb
    refine ⟨rfl, ?_⟩
    show (QF st r).box.get (st.ctr + 1) = _
    rw [bxr, if_neg (by omega), if_neg (by omega), if_neg (by omega), if_neg (by omega), if_pos rfl]; rfl
   ·rw [x3] at hb; cases hb
    refine ⟨JoU JoV rfl, ?_⟩
    show (QF st r).box.get st.ctr = _
    rw [bxr, if_neg (by omega), if_neg (by omega), if_neg (by omega), if_neg (by omega), if_neg (by omega), if_pos rfl, JdU, JlE, JnZ]; rfl
   ·rw [x6] at hb; cases hb
    refine ⟨rfl, ?_⟩
    show (QF st r).box.get (st.ctr + 2) = _
    rw [bxr, if_neg (by omega), if_neg (by omega), if_neg (by omega), if_pos rfl]; rfl
   ·rw [x9] at hb; cases hb
    refine ⟨rfl, ?_⟩
    show (QF st r).box.get (st.ctr + 3) = _
    rw [bxr, if_neg (by omega), if_neg (by omega), if_pos rfl]; rfl
   ·rw [x12] at hb; cases hb
    refine ⟨rfl, ?_⟩
    show (QF st r).box.get (st.ctr + 4) = _
    rw [bxr, if_neg (by omega), if_pos rfl]; rfl
   ·rw [x15] at hb; cases hb
    refine ⟨rfl, ?_⟩
    show (QF st r).box.get (st.ctr + 5) = _
    rw [bxr, if_pos rfl]; rfl
  gone := fun i hA h => by
   rcases Jcf.1 hA with rfl | rfl
   ·rcases h with h | h
    ·cases h
    ·rw [x0] at h; cases h
   ·rcases h with h | h
    ·cases h
    ·rw [x1] at h; cases h
  kA := fun i h hk => by
   have h2 : i < 2 := h
   exact Jcf.2 (by omega)
  rest := fun j hj h => by
   have h1 : r ≠ j := h 1 rfl
   rw [bxr, if_neg (by omega), if_neg (by omega), if_neg (by omega), if_neg (by omega), if_neg (by omega), if_neg (by omega), if_neg (Ne.symm h1)]
  new := fun j x hj hb => by
   rw [bxr] at hb
   by_cases h5 : j = st.ctr + 5
   ·subst h5; rw [if_pos rfl] at hb; cases hb
    exact ⟨15, _, by decide, rfl, rfl, x15, rfl⟩
   rw [if_neg h5] at hb
   by_cases h4 : j = st.ctr + 4
   ·subst h4; rw [if_pos rfl] at hb; cases hb
    exact ⟨12, _, by decide, rfl, rfl, x12, rfl⟩
   rw [if_neg h4] at hb
   by_cases h3 : j = st.ctr + 3
   ·subst h3; rw [if_pos rfl] at hb; cases hb
    exact ⟨9, _, by decide, rfl, rfl, x9, rfl⟩
   rw [if_neg h3] at hb
   by_cases h2 : j = st.ctr + 2
   ·subst h2; rw [if_pos rfl] at hb; cases hb
    exact ⟨6, _, by decide, rfl, rfl, x6, rfl⟩
   rw [if_neg h2] at hb
   by_cases h1 : j = st.ctr + 1
   ·subst h1; rw [if_pos rfl] at hb; cases hb
    exact ⟨2, _, by decide, rfl, rfl, x2, rfl⟩
   rw [if_neg h1] at hb
   by_cases h0 : j = st.ctr
   ·subst h0; rw [if_pos rfl] at hb; cases hb
    exact ⟨3, _, by decide, rfl, rfl, x3, by rw [JdU, JlE, JnZ]; rfl⟩
   rw [if_neg h0, if_neg (by omega), fr j hj] at hb
   cases hb
  ctr := by show st.ctr ≤ st.ctr + 6; omega }
 exact Jo2 JdT (fun _ _ _ _ _ _ _ hv => by cases hv) trivial Je7 hx M rfl rfl (fun i x h => by
  by_cases h0 : i = 0
  ·subst h0; decide
  ·by_cases h1 : i = 1
   ·subst h1; decide
   ·rw [gn i h0 h1] at h; cases h) base g w cargs hgl hi hrs
end Go.Vm
namespace Go.Vm
open Go Go.Proofs Go.Sy
set_option maxRecDepth 100000
theorem JhF (f : Nat) (args : List V) (st : St) : ∀ (A B : List Rule), (∀ e ∈ A, Nat.beq e.f f = false ∨ e.run args st = none) → (mfF f (A ++ B)).run args st = (mfF f B).run args st
 | [], B, _ => rfl
 | a :: A, B, h => by
  have ih := JhF f args st A B fun e he => h e (by simp [he])
  simp only [List.cons_append, mfF]
  cases hb : Nat.beq a.f f with
  | false => exact ih
  | true =>
   rcases h a (by simp) with h1 | h1
   ·rw [h1] at hb; cases hb
   ·simp only [h1]; exact ih
theorem Jfm {f : Nat} {args : List V} {st : St} {L : List Rule} (h : ∀ e ∈ L, Nat.beq e.f f = false ∨ e.run args st = none) : (mfF f L).run args st = none := by
 have := JhF f args st L [] h
 rw [List.append_nil] at this
 rw [this]; rfl
theorem JbH {f : Nat} {args : List V} {st : St} {p : V × St} : ∀ {L : List Rule}, (∃ e ∈ L, e.f = f ∧ e.run args st = some p) → (∀ e ∈ L, e.f = f → e.run args st = none ∨ e.run args st = some p) → (mfF f L).run args st = some p
 | [], h, _ => by obtain ⟨e, he, _⟩ := h; cases he
 | a :: L, h, hu => by
  simp only [mfF]
  cases hb : Nat.beq a.f f with
  | false =>
   refine JbH (L := L) ?_ fun e he => hu e (by simp [he])
   obtain ⟨e, he, hf, hr⟩ := h
   rcases List.mem_cons.1 he with rfl | he
   ·rw [hf, Nat.beq_refl] at hb; cases hb
   ·exact ⟨e, he, hf, hr⟩
  | true =>
   have hf := Nat.eq_of_beq_eq_true hb
   rcases hu a (by simp) hf with h1 | h1
   ·simp only [h1]
    refine JbH (L := L) ?_ fun e he => hu e (by simp [he])
    obtain ⟨e, he, hf', hr⟩ := h
    rcases List.mem_cons.1 he with rfl | he
    ·rw [h1] at hr; cases hr
    ·exact ⟨e, he, hf', hr⟩
   ·simp only [h1]
noncomputable def Jat : List Rule := [onceRule, setEnt.rule, badEnt.rule, awakeEnt.rule]
theorem pr_rules : ∀ e ∈ Jat, JcA Tryz.prog prGl e :=
 JcC JkC (JcC set_ent.rule (JcC bad_ent.rule (JcC awake_ent.rule Jdg)))
noncomputable abbrev prMemo : Memo := JfV prGl Jat
theorem Jay {e : Rule} (h : e ∈ Jat) : e = onceRule ∨ e = setEnt.rule ∨ e = badEnt.rule ∨ e = awakeEnt.rule := by
 unfold Jat at h
 simpa using h
theorem JlF (e : Ent) (args : List V) (st : St) : e.rule.run args st = match JeM args e.args with
 | true => some (e.v, st)
 | false => none := rfl
theorem Joc {a b : Nat} (h : a ≠ b) : Nat.beq a b = false := by
 cases hb : Nat.beq a b with
 | false => rfl
 | true => exact absurd (Nat.eq_of_beq_eq_true hb) h
theorem pr_ny : @NY prMemo := by
 letI : Memo := prMemo
 refine ⟨fun f h91 h89 h a st => ?_⟩
 show (mfF f Jat).run a st = none
 have ne : f ≠ 147 ∧ f ≠ 145 ∧ f ≠ 6 ∧ f ≠ 124 := by
  refine ⟨?_, ?_, ?_, ?_⟩
  ·rintro rfl; cases h91
  ·rintro rfl; cases h89
  ·rintro rfl; cases h
  ·rintro rfl; cases h
 refine Jfm fun e he => .inl (Joc ?_)
 rcases Jay he with rfl | rfl | rfl | rfl
 ·exact Ne.symm ne.2.2.2
 ·exact Ne.symm ne.1
 ·exact Ne.symm ne.2.1
 ·exact Ne.symm ne.2.2.1
theorem pr_na : @NA prMemo := by
 letI : Memo := prMemo
 refine ⟨fun st => ?_⟩
 show (mfF 6 Jat).run [] st = _
 refine JbH ⟨awakeEnt.rule, by unfold Jat; simp, rfl, rfl⟩ fun e he hf => ?_
 rcases Jay he with rfl | rfl | rfl | rfl
 ·cases hf
 ·cases hf
 ·cases hf
 ·exact .inr rfl
theorem pr_no : @NO prMemo := by
 letI : Memo := prMemo
 refine ⟨fun st r g l hb => ?_, fun st r o h => ?_⟩
 ·show (mfF 124 Jat).run _ st = _
  refine Jfm fun e he => ?_
  rcases Jay he with rfl | rfl | rfl | rfl
  ·right
   cases h : onceRule.run [.ptr r 0, g] st with
   | none => rfl
   | some p =>
    obtain ⟨r', o, ha, hr, _⟩ := JhB h
    injection ha with h1 _
    injection h1 with h1 _
    subst h1
    have := hr.rb
    rw [hb] at this
    simp at this
  ·exact .inl rfl
  ·exact .inl rfl
  ·exact .inl rfl
 ·have hbx : ∀ i, (QF st r).box.get i = if i = st.ctr + 5 then some (.cells [.int .u8 92, .int .u8 36] 5 false none) else if i = st.ctr + 4 then some (.cells [.int .u8 92, .int .u8 34] 5 false none) else if i = st.ctr + 3 then some (.cells [.int .u8 92, .int .u8 92] 5 false none) else if i = st.ctr + 2 then some (.cells [.int .u8 92, .int .u8 96] 5 false none) else if i = st.ctr + 1 then some (.cells (tqS.map .str) 9 true (some 0)) else if i = st.ctr then some (.cells (TC (bxA st.ctr) (st.ctr + 1)) 180 true (some 0)) else if i = r then some (.cells [.int .u32 1, .int .i32 0, .int .u32 0, .iface 181 (.ptr st.ctr 0), .nils] 149 true (some 0)) else st.box.get i := fun i => by
   simp only [QF, Tr.get_put]
  have hrl := h.rlt
  have hc : (QF st r).ctr = st.ctr + 6 := rfl
  have hq4 : ∀ c, c < 256 → isQ (UInt8.ofNat c) = true → c = 96 ∨ c = 92 ∨ c = 34 ∨ c = 36 := by decide +kernel
  refine ⟨QF st r, st.ctr, st.ctr + 1, bxA st.ctr, ?_, ⟨?_, by omega, ⟨?_, ?_, ?_, by omega, by omega⟩⟩, by omega, fun i hi hn => ?_, by omega, by omega, fun c _ _ => ?_⟩
  ·show (mfF 124 Jat).run _ st = _
   refine JbH ⟨onceRule, by unfold Jat; simp, rfl, JhC h⟩ fun e he hf => ?_
   rcases Jay he with rfl | rfl | rfl | rfl
   ·exact .inr (JhC h)
   ·cases hf
   ·cases hf
   ·cases hf
  ·rw [hbx, if_neg (by omega), if_neg (by omega), if_neg (by omega), if_neg (by omega), if_neg (by omega), if_neg (by omega), if_pos rfl]
  ·rw [hbx, if_neg (by omega), if_neg (by omega), if_neg (by omega), if_neg (by omega), if_neg (by omega), if_pos rfl]
  ·rw [hbx, if_neg (by omega), if_neg (by omega), if_neg (by omega), if_neg (by omega), if_pos rfl]
  ·intro c hc2 hq
   rcases hq4 c hc2 hq with rfl | rfl | rfl | rfl
   ·exact ⟨by (show (QF st r).box.get (st.ctr + 2) = _); rw [hbx, if_neg (by omega), if_neg (by omega), if_neg (by omega), if_pos rfl]; rfl, by show st.ctr + 2 < _; omega⟩
   ·exact ⟨by (show (QF st r).box.get (st.ctr + 3) = _); rw [hbx, if_neg (by omega), if_neg (by omega), if_pos rfl]; rfl, by show st.ctr + 3 < _; omega⟩
   ·exact ⟨by (show (QF st r).box.get (st.ctr + 4) = _); rw [hbx, if_neg (by omega), if_pos rfl]; rfl, by show st.ctr + 4 < _; omega⟩
   ·exact ⟨by (show (QF st r).box.get (st.ctr + 5) = _); rw [hbx, if_pos rfl]; rfl, by show st.ctr + 5 < _; omega⟩
  ·rw [hbx, if_neg (by omega), if_neg (by omega), if_neg (by omega), if_neg (by omega), if_neg (by omega), if_neg (by omega), if_neg hn]
  ·unfold bxA; split
   ·omega
   split
   ·omega
   split <;> omega
theorem pr_hits : @Hits prMemo prGl aLs := by
 letI : Memo := prMemo
 refine ⟨by kernel_rfl, fun i hi => by simp [aLs, hi], by kernel_rfl, fun st => Jh (Jfi (v := .tup [.agg aLs, .bool true]) ?_), fun st => Jh (Jfi (v := .int .i64 (-1)) ?_), fun c st hc => ?_⟩
 ·show (mfF 147 Jat).run _ st = _
  refine JbH ⟨setEnt.rule, by unfold Jat; simp, rfl, rfl⟩ fun e he hf => ?_
  rcases Jay he with rfl | rfl | rfl | rfl
  ·cases hf
  ·exact .inr rfl
  ·cases hf
  ·cases hf
 ·show (mfF 145 Jat).run _ st = _
  refine JbH ⟨badEnt.rule, by unfold Jat; simp, rfl, rfl⟩ fun e he hf => ?_
  rcases Jay he with rfl | rfl | rfl | rfl
  ·cases hf
  ·cases hf
  ·exact .inr rfl
  ·cases hf
 ·show (mfF 145 Jat).run _ st = _
  refine Jfm fun e he => ?_
  rcases Jay he with rfl | rfl | rfl | rfl
  ·exact .inl rfl
  ·exact .inl rfl
  ·right
   rw [JlF]
   cases ha : JeM [V.str specialS, .int .i32 (c : Int)] badEnt.args with
   | false => rfl
   | true =>
    have h1 := JfU ha
    injection h1 with _ h1
    injection h1 with h1 _
    injection h1 with _ h1
    omega
  ·exact .inl rfl
end Go.Vm
namespace Go.Vm
open Go
mutual
def Jdl : V → Nat
 | .str s => s.n + 1
 | .sl _ cs _ => vtots cs + 1
 | .cp cs => vtots cs + 1
 | .agg cs => vtots cs + 1
 | .tup cs => vtots cs + 1
 | .fn _ a b => vtots a + vtots b + 2
 | .iface _ x => Jdl x + 1
 | _ => 1
def vtots : List V → Nat
 | [] => 0
 | a :: r => Jdl a + vtots r
end
mutual
theorem Jeh : ∀ v : V, vsz v + 1 ≤ 3 * Jdl v
 | .sl m cs ex => by have := Jct cs; rw [vsz, Jdl]; omega
 | .cp cs => by have := Jct cs; rw [vsz, Jdl]; omega
 | .agg cs => by have := Jct cs; rw [vsz, Jdl]; omega
 | .tup cs => by have := Jct cs; rw [vsz, Jdl]; omega
 | .fn f a b => by have := Jct a; have := Jct b; rw [vsz, Jdl]; omega
 | .iface t x => by have := Jeh x; rw [vsz, Jdl]; omega
 | .str s => by show 1 + 1 ≤ 3 * (s.n + 1); omega
 | .bool _ => by show 1 + 1 ≤ 3 * 1; omega
 | .int _ _ => by show 1 + 1 ≤ 3 * 1; omega
 | .nilp => by show 1 + 1 ≤ 3 * 1; omega
 | .nils => by show 1 + 1 ≤ 3 * 1; omega
 | .nilf => by show 1 + 1 ≤ 3 * 1; omega
 | .nili => by show 1 + 1 ≤ 3 * 1; omega
 | .nilm => by show 1 + 1 ≤ 3 * 1; omega
 | .ms _ _ _ _ _ => by show 1 + 1 ≤ 3 * 1; omega
 | .ptr _ _ => by show 1 + 1 ≤ 3 * 1; omega
 | .yld _ => by show 1 + 1 ≤ 3 * 1; omega
 | .mapp _ => by show 1 + 1 ≤ 3 * 1; omega
theorem Jct : ∀ l : List V, Jbb l ≤ 3 * vtots l + 1
 | [] => by rw [Jbb, vtots]; omega
 | a :: r => by have := Jeh a; have := Jct r; rw [Jbb, vtots]; omega
end
theorem JlG (v : V) : 1 ≤ Jdl v := by have := Jeh v; omega
theorem JaG : ∀ l m : List V, vtots (l ++ m) = vtots l + vtots m
 | [], m => by simp [vtots]
 | a :: l, m => by rw [List.cons_append, vtots, vtots, JaG l m]; omega
theorem Jgo : ∀ l : List V, l.length ≤ vtots l
 | [] => by simp [vtots]
 | a :: l => by have := JlG a; have := Jgo l; simp only [vtots, List.length_cons]; omega
theorem Jgp {α : Type} {f : α → List V} : ∀ {l : List α} {a : α}, a ∈ l → vtots (f a) ≤ vtots (l.flatMap f)
 | b :: l, a, h => by
  rw [List.flatMap_cons, JaG]
  rcases List.mem_cons.1 h with rfl | h
  ·omega
  ·have := Jgp (f := f) h; omega
theorem Jcu {α : Type} {f : α → List V} {z : Nat} : ∀ (l : List α), (∀ a ∈ l, (f a).length = z) → l.length * z ≤ vtots (l.flatMap f)
 | [], _ => by simp
 | b :: l, h => by
  rw [List.flatMap_cons, JaG, List.length_cons, Nat.succ_mul]
  have h1 := Jgo (f b)
  rw [h b (by simp)] at h1
  have := Jcu l (fun a ha => h a (by simp [ha]))
  omega
end Go.Vm
namespace Go.Vm
open Go Go.RowKit
def Shp (P : Program) : Nat → TypeId → List V → Prop
 | 0, _, _ => False
 | n + 1, t, vs =>
  match P.underlying t with
  | some .bool => ∃ b, vs = [.bool b]
  | some (.int k) => ∃ i, vs = [.int k i] ∧ (Lit.int k i).wf = true
  | some .string => ∃ s : S, vs = [.str s] ∧ s.n ≤ maxLen
  | some (.slice e) => vs = [.nils] ∨ ∃ ls : List (List V), vs = [.sl ls.length ls.flatten false] ∧ ls.length ≤ maxLen ∧ ∀ l ∈ ls, Shp P n e l
  | some (.struct fs) => ∃ ls : List (List V), vs = ls.flatten ∧ ls.length = fs.size ∧ ∀ (i : Nat) f l, fs[i]? = some f → ls[i]? = some l → Shp P n f.type l
  | _ => False
def JhG (P : Program) : List Field → Nat → Option Nat
 | [], c => some c
 | f :: r, c => if f.offset = c then JhG P r (c + P.cellsOf f.type) else none
def okT (P : Program) (T : List TypeId) : Bool := T.all fun t =>
 match P.underlying t with
 | some .bool | some (.int _) | some .string => true
 | some (.slice e) => T.contains e && decide (0 < P.cellsOf e)
 | some (.struct fs) => decide (JhG P fs.toList 0 = some (P.cellsOf t)) && fs.toList.all fun f => T.contains f.type
 | _ => false
end Go.Vm
namespace Go.Vm
open Go Go.Proofs Go.RowKit
abbrev bulk {H : Type} (d : DataW H) : Nat := Go.Proofs.YtlmmgpmioaecnaaGreatDoor.Rows.uptoBulk d
abbrev Jbr {H : Type} (l : List (DataW H)) : Nat := Go.Proofs.YtlmmgpmioaecnaaGreatDoor.Rows.uptoBulkAll l
theorem JkD {H : Type} (l r : List (DataW H)) : Jbr (l ++ r) = Jbr l + Jbr r := by
 induction l with
 | nil => simp [Jbr, Go.Proofs.YtlmmgpmioaecnaaGreatDoor.Rows.uptoBulkAll]
 | cons x l ih => simp only [Jbr, List.cons_append, Go.Proofs.YtlmmgpmioaecnaaGreatDoor.Rows.uptoBulkAll] at ih ⊢; omega
theorem JkE {H : Type} (d : DataW H) : Jbr [d] = bulk d := by simp [Jbr, Go.Proofs.YtlmmgpmioaecnaaGreatDoor.Rows.uptoBulkAll]
theorem JeC {H : Type} {P : Program} {g : Gh} {cs : List Value} {n : Nat} : ∀ (l : List Field) (xs : List (DataW H)) (c e : Nat), xs.length = l.length → JhG P l c = some e → c ≤ cs.length → e ≤ cs.length → (∀ (i : Nat) f d, l[i]? = some f → xs[i]? = some d → ∃ vs, Rs g vs ((cs.drop f.offset).take (P.cellsOf f.type)) ∧ Shp P n f.type vs ∧ vtots vs ≤ bulk d) →
  c ≤ e ∧ ∃ ls : List (List V), ls.length = l.length ∧ Rs g ls.flatten ((cs.drop c).take (e - c)) ∧ (∀ (i : Nat) f x, l[i]? = some f → ls[i]? = some x → Shp P n f.type x) ∧ vtots ls.flatten ≤ Jbr xs
 | [], xs, c, e, hx, h, _, _, _ => by
  simp only [JhG, Option.some.injEq] at h
  subst h
  exact ⟨Nat.le_refl _, [], rfl, by simpa using Rs.nil, fun i f x h => by simp at h, by simp [vtots]⟩
 | f :: r, [], c, e, hx, h, hc, he, hp => by simp at hx
 | f :: r, d :: xs, c, e, hx, h, hc, he, hp => by
  simp only [JhG] at h
  split at h
  ·rename_i ho
   obtain ⟨vs, h1, h2, hv⟩ := hp 0 f d rfl rfl
   have hmono : ∀ (l : List Field) (c e : Nat), JhG P l c = some e → c ≤ e := by
    intro l
    induction l with
    | nil => intro c e h; simp only [JhG, Option.some.injEq] at h; omega
    | cons f r ih =>
     intro c e h
     simp only [JhG] at h
     split at h
     ·have := ih _ _ h; omega
     ·cases h
   have hce := hmono r _ _ h
   obtain ⟨h3, ls, h4, h5, h6, h7⟩ := JeC r xs (c + P.cellsOf f.type) e (by simpa using hx) h (by omega) he (fun i g d hg hd => hp (i + 1) g d (by simpa using hg) (by simpa using hd))
   refine ⟨by omega, vs :: ls, by simp [h4], ?_, fun i g x hg hx => ?_, ?_⟩
   ·rw [ho] at h1
    have := h1.app h5
    rw [List.flatten_cons]
    have e2 : List.take (P.cellsOf f.type) (List.drop c cs) ++ List.take (e - (c + P.cellsOf f.type)) (List.drop (c + P.cellsOf f.type) cs) = List.take (e - c) (List.drop c cs) := by
     rw [← List.drop_drop, ← List.take_add]
     congr 1; omega
    rwa [e2] at this
   ·cases i with
    | zero => simp at hg hx; subst hg; subst hx; exact h2
    | succ i => exact h6 i g x (by simpa using hg) (by simpa using hx)
   ·rw [List.flatten_cons, JaG]
    have e1 : Jbr (d :: xs) = bulk d + Jbr xs := rfl
    rw [e1]
    omega
  ·cases h
theorem shp_of_trod2 {H : Type} {enc : TypeId × Value → H} {P : Program} {W : World} {sp : Nat → Bool} {held : Bool} {T : List TypeId} (hT : okT P T = true) : ∀ (n : Nat) (t : TypeId) (cs : List Value) (x : DataW H × List MemPlace), t ∈ T →
  DataW.trod enc P W 0 sp held n t cs = some x → ∃ vs, Rs (worldGh W) vs cs ∧ Shp P n t vs ∧ vtots vs ≤ bulk x.1 := by
 intro n
 induction n with
 | zero => intro t cs x _ h; simp [DataW.trod] at h
 | succ n ih =>
  intro t cs x ht h
  have hk := List.all_eq_true.1 hT t ht
  simp only [Shp]
  split at hk
  ·rename_i hu
   obtain ⟨b, rfl, rfl⟩ := DataW.trod_bool hu h
   exact ⟨[.bool b], .cons _ _ _ _ (.bool _) .nil, by exact ⟨b, rfl⟩, by exact Nat.le_refl _⟩
  ·rename_i k hu
   obtain ⟨i, rfl, rfl, hw⟩ := DataW.trod_int hu h
   exact ⟨[.int k i], .cons _ _ _ _ (.int _ _) .nil, by exact ⟨i, rfl, hw⟩, by exact Nat.le_refl _⟩
  ·rename_i hu
   obtain ⟨s, rfl, rfl, hw⟩ := DataW.trod_string hu h
   refine ⟨[.str (S.ofList s.data.toList)], .cons _ _ _ _ ?_ .nil, by exact ⟨_, rfl, by simpa [S.ofList] using hw⟩, by exact Nat.le_refl _⟩
   have h1 : (⟨⟨(S.ofList s.data.toList).toList⟩⟩ : ByteArray) = s := by
    rw [show (S.ofList s.data.toList).toList = s.data.toList from Jfe _]
   have := R.str (g := worldGh W) (S.ofList s.data.toList)
   rwa [h1] at this
  ·rename_i e hu
   simp only [Bool.and_eq_true, decide_eq_true_eq, List.contains_iff_mem] at hk
   obtain ⟨he, hz⟩ := hk
   rcases DataW.trod_slice hu h with ⟨rfl, rfl⟩ | ⟨a, len, cap, elems, rest, m, hm, rfl, rfl, _, hlc, hcap, hel, hget, _⟩
   ·exact ⟨[.nils], .cons _ _ _ _ .nils .nil, by exact .inl rfl, by exact Nat.le_refl _⟩
   ·obtain rfl : m = n := by omega
    have hone : ∀ i (hi : i < len), ∃ cells vs, W.cells? 0 (a.add (i * P.cellsOf e)) (P.cellsOf e) = some cells ∧ Rs (worldGh W) vs cells ∧ Shp P m e vs ∧ vtots vs ≤ bulk (elems[i]'(by omega)).1 := fun i hi => by
     have h1 := hget i hi
     rw [List.getElem?_eq_getElem (by omega)] at h1
     simp only [Option.bind_eq_some_iff] at h1
     obtain ⟨cells, h2, h3⟩ := h1
     obtain ⟨vs, h4, h5, h6⟩ := ih e cells _ he h3
     exact ⟨cells, vs, h2, h4, h5, h6⟩
    by_cases hl : len = 0
    ·subst hl
     refine ⟨[.sl 0 [] false], .cons _ _ _ _ (.sl0 false a cap (fun h => by cases h)) .nil, by exact .inr ⟨[], rfl, Nat.zero_le _, fun l hl => by simp at hl⟩, ?_⟩
     have e1 : bulk (DataW.slice (elems.map (·.1)) (rest.map (·.1))) = Jbr (elems.map (·.1)) + Jbr (rest.map (·.1)) + 1 := rfl
     have e2 : vtots [V.sl 0 [] false] = 1 := rfl
     show vtots [V.sl 0 [] false] ≤ bulk (DataW.slice (elems.map (·.1)) (rest.map (·.1)))
     rw [e1, e2]
     omega
    ·have hsp : a.spot = none := by
      obtain ⟨cells, vs, h1, _, _⟩ := hone 0 (by omega)
      have := (Jdj h1 (by omega)).1
      simpa [Addr.add] using this
     obtain ⟨b, o, s⟩ := a
     simp only at hsp
     subst hsp
     have hall : ∀ k, k ≤ len → ∃ ls : List (List V), ls.length = k ∧ (∀ l ∈ ls, Shp P m e l) ∧ vtots ls.flatten ≤ Jbr ((elems.take k).map (·.1)) ∧ ∃ l0, Rs (worldGh W) ls.flatten l0 ∧ l0.length = k * P.cellsOf e ∧ (worldGh W).has b o l0 := by
      intro k
      induction k with
      | zero => intro _; exact ⟨[], rfl, fun l hl => by simp at hl, by simp [vtots], [], .nil, by simp, fun i c hi => by simp at hi⟩
      | succ k ihk =>
       intro hk
       obtain ⟨ls, h1, h2, hv, l0, h3, h4, h5⟩ := ihk (by omega)
       obtain ⟨cells, vs, q1, q2, q3, q4⟩ := hone k (by omega)
       have hq := (Jdj q1 (by omega)).2
       have hlen : cells.length = P.cellsOf e := by
        simp only [World.cells?] at q1
        split at q1
        ·simpa using mapM_some_length q1
        ·cases q1
       have hab : (⟨b, o, none⟩ : Addr).add (k * P.cellsOf e) = ⟨b, o + k * P.cellsOf e, none⟩ := by
        unfold Addr.add
        split
        ·rename_i h0; rw [h0]; rfl
        ·rfl
       rw [hab] at hq
       refine ⟨ls ++ [vs], by simp [h1], fun l hl => ?_, ?_, l0 ++ cells, ?_, ?_, fun i c hi => ?_⟩
       ·rcases List.mem_append.1 hl with hl | hl
        ·exact h2 l hl
        ·simp at hl; subst hl; exact q3
       ·rw [List.take_add_one, List.getElem?_eq_getElem (by omega), List.map_append, JkD, List.flatten_append, JaG]
        have e1 : vtots [vs].flatten = vtots vs := by simp
        have e2 : Jbr (List.map (·.1) (some (elems[k]'(by omega))).toList) = bulk (elems[k]'(by omega)).1 := JkE _
        rw [e1, e2]
        omega
       ·rw [List.flatten_append]
        simpa using h3.app q2
       ·rw [List.length_append, h4, hlen, Nat.succ_mul]
       ·by_cases hi' : i < l0.length
        ·exact h5 i c (by rwa [List.getElem?_append_left hi'] at hi)
        ·rw [List.getElem?_append_right (by omega)] at hi
         have := hq (i - l0.length) c hi
         rw [show o + k * P.cellsOf e + (i - l0.length) = o + i by omega] at this
         exact this
     obtain ⟨ls, h1, h2, hv, l0, h3, h4, h5⟩ := hall len (Nat.le_refl _)
     refine ⟨[.sl ls.length ls.flatten false], .cons _ _ _ _ ?_ .nil, by exact .inr ⟨ls, rfl, by omega, h2⟩, ?_⟩
     ·rw [h1]
      exact .sl _ _ _ b o cap l0 h3 h5 hlc (fun h => by cases h)
     ·rw [List.take_of_length_le (by omega)] at hv
      have e1 : bulk (DataW.slice (elems.map (·.1)) (rest.map (·.1))) = Jbr (elems.map (·.1)) + Jbr (rest.map (·.1)) + 1 := rfl
      have e2 : vtots [V.sl ls.length ls.flatten false] = vtots ls.flatten + 1 := rfl
      show vtots [V.sl ls.length ls.flatten false] ≤ bulk (DataW.slice (elems.map (·.1)) (rest.map (·.1)))
      rw [e1, e2]
      omega
  ·rename_i fs hu
   simp only [Bool.and_eq_true, decide_eq_true_eq, List.all_eq_true, List.contains_iff_mem] at hk
   obtain ⟨htile, hf⟩ := hk
   obtain ⟨xs, m, hm, rfl, hlen, hxl, hget⟩ := DataW.trod_struct hu h
   obtain rfl : m = n := by omega
   obtain ⟨_, ls, h1, h2, h3, h4⟩ := JeC (g := worldGh W) (cs := cs) (n := m) fs.toList (xs.map (·.1)) 0 _ (by simpa using hxl) htile (Nat.zero_le _) (by omega) (fun i f d hfi hd => by
    have h1 := hget i f (by simpa using hfi)
    have hi : i < fs.size := by
     have := (List.getElem?_eq_some_iff.1 hfi).1
     simpa using this
    rw [List.getElem?_eq_getElem (by omega)] at h1
    rw [List.getElem?_map, List.getElem?_eq_getElem (by omega)] at hd
    obtain rfl := Option.some.inj hd
    exact ih f.type _ _ (hf f (List.mem_of_getElem? hfi)) h1)
   refine ⟨ls.flatten, ?_, by exact ⟨ls, rfl, by simpa using h1, fun i f l hf hl => h3 i f l (by simpa using hf) hl⟩, ?_⟩
   ·simpa [← hlen] using h2
   ·have e1 : bulk (DataW.agg (xs.map (·.1))) = Jbr (xs.map (·.1)) + 1 := rfl
    show vtots ls.flatten ≤ bulk (DataW.agg (xs.map (·.1)))
    rw [e1]
    omega
  ·cases hk
end Go.Vm
namespace Go.Vm
open Go Go.Proofs Go.RowKit Go.Sy
set_option maxRecDepth 100000
theorem JjR {α : Type} {f : α → List V} {Q : α → Prop} : ∀ {ls : List (List V)}, (∀ l ∈ ls, ∃ a, l = f a ∧ Q a) → ∃ al : List α, ls = al.map f ∧ ∀ a ∈ al, Q a
 | [], _ => ⟨[], rfl, fun a h => by simp at h⟩
 | l :: ls, h => by
  obtain ⟨a, rfl, ha⟩ := h l (by simp)
  obtain ⟨al, he, hal⟩ := JjR (ls := ls) (fun l hl => h l (List.mem_cons_of_mem _ hl))
  subst he
  exact ⟨a :: al, rfl, fun b hb => by
   rcases List.mem_cons.1 hb with rfl | hb
   ·exact ha
   ·exact hal b hb⟩
theorem JbK {ls : List (List V)} {l : List V} (h : l ∈ ls) : vtots l ≤ vtots ls.flatten := by
 have := Jgp (f := fun x : List V => x) h
 rwa [List.flatMap_id'] at this
theorem JiL {α : Type} {f : α → List V} {Q : α → Prop} {n : Nat} {t e : TypeId} {vs : List V} {B : Nat} (hu : Tryz.prog.underlying t = some (.slice e)) (h : Shp Tryz.prog (n + 1) t vs) (hb : vtots vs ≤ B)
  (hp : ∀ l, Shp Tryz.prog n e l → vtots l ≤ B → ∃ a, l = f a ∧ Q a) : ∃ x al, vs = [x] ∧ Row f x al ∧ (∀ a ∈ al, Q a) ∧ vtots (al.flatMap f) ≤ B ∧ Jdl x ≤ B := by
 simp only [Shp, hu] at h
 rcases h with rfl | ⟨ls, rfl, _, hls⟩
 ·exact ⟨.nils, [], rfl, .nils, fun a ha => by simp at ha, by simp [vtots], by simpa [vtots, Jdl] using hb⟩
 ·have e2 : vtots [V.sl ls.length ls.flatten false] = vtots ls.flatten + 1 := rfl
  rw [e2] at hb
  obtain ⟨al, rfl, hal⟩ := JjR (f := f) (Q := Q) (fun l hl => hp l (hls l hl) (by have := JbK hl; omega))
  have e3 : (al.map f).flatten = al.flatMap f := (List.flatMap_def ..).symm
  rw [e3] at hb
  refine ⟨_, al, rfl, ?_, hal, by omega, hb⟩
  rw [e3, List.length_map]
  exact .sl al false
theorem Jne {n : Nat} {vs : List V} (h : Shp Tryz.prog n 43 vs) : ∃ p : Wp, vs = p.cells := by
 cases n with
 | zero => exact h.elim
 | succ n =>
  simp only [Shp, Tryz.underlying43] at h
  obtain ⟨ls, rfl, hlen, hf⟩ := h
  match ls, hlen, hf with
  | [l0, l1, l2], _, hf =>
   have h0 := hf 0 _ l0 rfl rfl
   have h1 := hf 1 _ l1 rfl rfl
   have h2 := hf 2 _ l2 rfl rfl
   cases n with
   | zero => exact h0.elim
   | succ n =>
    simp only [Shp] at h0 h1 h2
    obtain ⟨v, rfl⟩ := h0
    obtain ⟨t, rfl, _⟩ := h1
    obtain ⟨q, rfl⟩ := h2
    exact ⟨⟨v, t, q⟩, rfl⟩
theorem JhH : ∀ l : List Wp, (QX l).length ≤ vtots (l.flatMap Wp.cells)
 | [] => by simp [QX]
 | p :: l => by
  have := JhH l
  rw [List.flatMap_cons, JaG, show QX (p :: l) = p.t.toList ++ QX l from rfl, List.length_append, S.len]
  have e : vtots p.cells = 1 + ((p.t.n + 1) + (1 + 0)) := rfl
  omega
theorem Jnf {n : Nat} {vs : List V} (h : Shp Tryz.prog n 41 vs) (hb : vtots vs ≤ 1048576) : ∃ w : Ww, vs = w.cells ∧ w.ok ∧ w.small := by
 cases n with
 | zero => exact h.elim
 | succ n =>
  simp only [Shp, Tryz.underlying41] at h
  obtain ⟨ls, rfl, hlen, hf⟩ := h
  match ls, hlen, hf, hb with
  | [l0, l1], _, hf, hb =>
   have h0 := hf 0 _ l0 rfl rfl
   have h1 := hf 1 _ l1 rfl rfl
   cases n with
   | zero => exact h0.elim
   | succ n =>
    have hb0 : vtots l0 ≤ 1048576 := by
     have := JbK (ls := [l0, l1]) (l := l0) (by simp); omega
    obtain ⟨x, l, rfl, hrow, _, hl, hx⟩ := JiL (f := Wp.cells) (Q := fun _ => True) Tryz.underlying39 h0 hb0 (fun l hl _ => by
     obtain ⟨p, hp⟩ := Jne hl
     exact ⟨p, hp, trivial⟩)
    simp only [Shp] at h1
    obtain ⟨a, rfl, _⟩ := h1
    refine ⟨⟨x, a, l⟩, rfl, hrow, ?_, ?_, ?_⟩
    ·have := Jcu (f := Wp.cells) (z := 3) l (fun p _ => rfl)
     show l.length < 900000
     omega
    ·have := JhH l
     show (QX l).length < 2000000
     omega
    ·have := Jeh x
     show vsz x < 10000000
     omega
theorem cmd_of : ∀ (n : Nat) {vs : List V}, Shp Tryz.prog n 25 vs → vtots vs ≤ 1048576 → ∃ c : Cw, vs = c.cells ∧ c.ok ∧ c.small := by
 intro n
 induction n using Nat.strongRecOn with
 | ind n ih =>
 intro vs h hb
 cases n with
 | zero => exact h.elim
 | succ n =>
  simp only [Shp, Tryz.underlying25] at h
  obtain ⟨ls, rfl, hlen, hf⟩ := h
  match ls, hlen, hf, hb with
  | [l0, l1, l2, l3, l4], _, hf, hb =>
   have h0 := hf 0 _ l0 rfl rfl
   have h1 := hf 1 _ l1 rfl rfl
   have h2 := hf 2 _ l2 rfl rfl
   have h3 := hf 3 _ l3 rfl rfl
   have h4 := hf 4 _ l4 rfl rfl
   cases n with
   | zero => exact h0.elim
   | succ n =>
    have b2 : vtots l2 ≤ 1048576 := by have := JbK (ls := [l0, l1, l2, l3, l4]) (l := l2) (by simp); omega
    have b3 : vtots l3 ≤ 1048576 := by have := JbK (ls := [l0, l1, l2, l3, l4]) (l := l3) (by simp); omega
    have b4 : vtots l4 ≤ 1048576 := by have := JbK (ls := [l0, l1, l2, l3, l4]) (l := l4) (by simp); omega
    obtain ⟨wv, ws, rfl, hw, hws, hwt, hwx⟩ := JiL (f := Ww.cells) (Q := fun w => w.ok ∧ w.small) Tryz.underlying22 h3 b3 (fun l hl hb => Jnf hl hb)
    obtain ⟨kv, kids, rfl, hkv, hks, hkt, hkx⟩ := JiL (f := Cw.cells) (Q := fun c => c.ok ∧ c.small) Tryz.underlying23 h4 b4 (fun l hl hb => ih n (by omega) hl hb)
    simp only [Shp] at h0 h1 h2
    obtain ⟨k, rfl, hk⟩ := h0
    obtain ⟨a, rfl, _⟩ := h1
    obtain ⟨nm, rfl, _⟩ := h2
    have hk2 : 0 ≤ k ∧ k ≤ 255 := by simpa [Lit.wf, IntKind.min, IntKind.max, IntKind.signed, IntKind.bits] using hk
    have hkk : k = ((k.toNat : Nat) : Int) := by omega
    refine ⟨.mk k.toNat a nm wv ws kv kids, ?_, .mk _ _ _ _ _ _ _ (by omega) hw (fun w hw => (hws w hw).1) hkv (fun c hc => (hks c hc).1), .mk _ _ _ _ _ _ _ ?_ ?_ ?_ ?_ ?_ (fun w hw => (hws w hw).2) (fun c hc => (hks c hc).2)⟩
    ·rw [show Cw.cells (.mk k.toNat a nm wv ws kv kids) = [.int .u8 (k.toNat : Int), .int .i64 a, .str nm, wv, kv] from rfl, ← hkk]
     rfl
    ·have e : vtots [V.str nm] = nm.n + 1 + 0 := rfl
     omega
    ·have := Jcu (f := Ww.cells) (z := 2) ws (fun p _ => rfl)
     omega
    ·have := Jcu (f := Cw.cells) (z := 5) kids (fun c _ => c.len5)
     omega
    ·have := Jeh wv
     omega
    ·have := Jeh kv
     omega
theorem Jn0 : ∀ l : List Wp, psm l ≤ vtots (l.flatMap Wp.cells)
 | [] => by simp [psm]
 | p :: l => by
  have h := Jn0 l
  rw [List.flatMap_cons, JaG]
  have e : vtots p.cells = 1 + ((p.t.n + 1) + (1 + 0)) := rfl
  simp only [psm, List.map_cons, List.sum_cons] at h ⊢
  omega
theorem JoW {w : Ww} (h : w.ok) : wsz w.l ≤ vtots w.cells := by
 obtain ⟨x, a, l⟩ := w
 simp only [Ww.ok] at h
 have hp := Jn0 l
 have e1 : wsz l = 1 + psm l := rfl
 show wsz l ≤ vtots [x, .int .i64 a]
 cases h with
 | nils => rw [e1]; simp [psm, vtots, Jdl]
 | sl l ex =>
  have e : vtots [V.sl l.length (l.flatMap Wp.cells) ex, .int .i64 a] = vtots (l.flatMap Wp.cells) + 1 + (1 + 0) := rfl
  rw [e, e1]; omega
theorem Jn1 : ∀ ws : List Ww, (∀ w ∈ ws, w.ok) → wsm ws ≤ vtots (ws.flatMap Ww.cells)
 | [], _ => by simp [wsm]
 | w :: ws, h => by
  have h1 := Jn1 ws fun v hv => h v (by simp [hv])
  have h2 := JoW (h w (by simp))
  rw [List.flatMap_cons, JaG]
  simp only [wsm, List.map_cons, List.sum_cons] at h1 ⊢
  omega
theorem JlH {α : Type} {f : α → List V} {x : V} {l : List α} (h : Row f x l) : vtots (l.flatMap f) ≤ Jdl x := by
 cases h with
 | nils => simp [vtots]
 | sl l ex => exact Nat.le_succ _
theorem JlI : ∀ kids : List Cw, (∀ c ∈ kids, msC c ≤ 2000 * vtots c.cells) → Jcg kids ≤ 2000 * vtots (kids.flatMap Cw.cells)
 | [], _ => by simp [Jcg]
 | c :: r, h => by
  have h1 := JlI r fun d hd => h d (by simp [hd])
  have h2 := h c (by simp)
  rw [List.flatMap_cons, JaG, Jcg]
  omega
theorem msC_v {c : Cw} (h : c.ok) : msC c ≤ 2000 * vtots c.cells := by
 induction h with
 | mk k a nm wv ws kv kids hk hw hws hkv hks ih =>
  have h1 := Jn1 ws hws
  have h2 := JlH hw
  have h3 := JlI kids ih
  have h4 := JlH hkv
  have e : vtots (Cw.cells (.mk k a nm wv ws kv kids)) = 1 + (1 + ((nm.n + 1) + (Jdl wv + (Jdl kv + 0)))) := rfl
  rw [e]
  simp only [msC]
  omega
end Go.Vm
