/- Regions that draw their order: whatever order comes up, the end is the evaluator's. -/
import Derived.Test.YtphinjijaglokaaGreatDoorVmCall
namespace Go.Vm
open Go Go.RowKit
theorem JlZ {fr fr' : Fr} (hgl : fr.gl = fr'.gl) {x : Operand} (h : ∀ t, x = .tmp t → Fr.at fr t = Fr.at fr' t) : ev fr x = ev fr' x := by
 cases x with
 | tmp t => simp only [ev]; rw [h t rfl]
 | global k => simp only [ev]; rw [hgl]
 | _ => rfl
theorem Jcp {fr fr' : Fr} : ∀ (xs : List Operand), (∀ x ∈ xs, ev fr x = ev fr' x) → evs fr xs = evs fr' xs
 | [], _ => rfl
 | x :: xs, h => by
  have h1 := h x (by simp)
  have h2 := Jcp xs (fun y hy => h y (by simp [hy]))
  unfold evs at h2 ⊢
  simp only [Jd, h1, h2]
theorem Jcj {fr fr' : Fr} : ∀ (xs : List (Nat × Operand)), (∀ x ∈ xs, ev fr x.2 = ev fr' x.2) → Jc fr xs = Jc fr' xs
 | [], _ => rfl
 | (i, x) :: xs, h => by
  have h1 := h (i, x) (by simp)
  have h2 := Jcj xs (fun y hy => h y (by simp [hy]))
  simp only at h1
  simp only [Jc, h1, h2]
theorem Je6 {fr fr' : Fr} {x : Option Operand} (h : ∀ y, x = some y → ev fr y = ev fr' y) : JW fr x = JW fr' x := by
 cases x with
 | none => rfl
 | some y => simp only [JW, h y rfl]
theorem Je7 {P : Program} {fr fr' : Fr} {st : St} {o : Op} (h : ∀ x ∈ o.operands.toList, ev fr x = ev fr' x) : JB P fr st o = JB P fr' st o := by
 cases o with
 | build t ps =>
  have := Jcj (fr := fr) (fr' := fr') ps.toList (fun x hx => h x.2 (by simp [Op.operands]; exact ⟨x.1, by simpa using hx⟩))
  simp only [JB, this]
 | makeFunc f a c =>
  have h1 := Jcp (fr := fr) (fr' := fr') a.toList (fun x hx => h x (by simp only [Op.operands, Array.toList_append, List.mem_append]; exact .inl hx))
  have h2 := Jcp (fr := fr) (fr' := fr') c.toList (fun x hx => h x (by simp only [Op.operands, Array.toList_append, List.mem_append]; exact .inr hx))
  cases f <;> simp only [JB, h1, h2]
 | slice t x lo hi mx =>
  have h1 := h x (by simp [Op.operands])
  have h2 := Je6 (fr := fr) (fr' := fr') (x := lo) (fun y hy => h y (by subst hy; simp [Op.operands]))
  have h3 := Je6 (fr := fr) (fr' := fr') (x := hi) (fun y hy => h y (by subst hy; simp [Op.operands]))
  cases mx with
  | none => simp only [JB, h1, h2, h3]
  | some m =>
   have h4 := h m (by simp [Op.operands])
   cases hi with
   | none => rfl
   | some y =>
    have h5 := h y (by simp [Op.operands])
    simp only [JB, h1, h2, h4, h5]
 | call c =>
  obtain ⟨callee, args, ts⟩ := c
  have h1 : ∀ x ∈ args.toList, ev fr x = ev fr' x := fun x hx => h x (by simp only [Op.operands, Call.operands, Array.toList_append, List.mem_append]; exact .inr hx)
  have h2 := Jcp (fr := fr) (fr' := fr') args.toList h1
  cases callee with
  | builtin b =>
   cases b <;> simp only [JB, h2]
   case len =>
    split
    ·rename_i x t r hx ht
     rw [h1 x (by rw [hx]; simp)]
    ·rfl
   case cap =>
    split
    ·rename_i x t r hx ht
     rw [h1 x (by rw [hx]; simp)]
    ·rfl
   case unsafeSliceData =>
    split
    ·rename_i x hx
     rw [h1 x (by rw [hx]; simp)]
    ·rfl
  | _ => rfl
 | binOp op t x y u => simp only [JB, h x (by simp [Op.operands]), h y (by simp [Op.operands])]
 | indexAddr t x i => simp only [JB, h x (by simp [Op.operands]), h i (by simp [Op.operands])]
 | index t x i => simp only [JB, h x (by simp [Op.operands]), h i (by simp [Op.operands])]
 | pick c x y => simp only [JB, h c (by simp [Op.operands]), h x (by simp [Op.operands]), h y (by simp [Op.operands])]
 | move x => simp only [JB, h x (by simp [Op.operands])]
 | assign x => simp only [JB, h x (by simp [Op.operands])]
 | nilCheck x => simp only [JB, h x (by simp [Op.operands])]
 | unOp op t x => simp only [JB, h x (by simp [Op.operands])]
 | convert s d x => simp only [JB, h x (by simp [Op.operands])]
 | makeInterface t x => simp only [JB, h x (by simp [Op.operands])]
 | fieldAddr t x f => simp only [JB, h x (by simp [Op.operands])]
 | field t x f => simp only [JB, h x (by simp [Op.operands])]
 | extract x i => simp only [JB, h x (by simp [Op.operands])]
 | typeAssert x xt u ok => simp only [JB, h x (by simp [Op.operands])]
 | lookup t x k ok => simp only [JB, h x (by simp [Op.operands]), h k (by simp [Op.operands])]
 | load t x => simp only [JB, h x (by simp [Op.operands])]
 | _ => rfl
theorem JnD {P : Program} {fr : Fr} {st st' : St} {o : Op} (h : Js P o = .p) : JB P fr st o = JB P fr st' o := by
 cases o with
 | makeFunc f a c => cases f <;> rfl
 | slice t x lo hi mx => cases mx <;> cases hi <;> rfl
 | call c =>
  obtain ⟨callee, args, ts⟩ := c
  cases callee with
  | builtin b => cases b <;> first | rfl | (simp [Js] at h; done)
  | _ => simp [Js] at h
 | load t x => simp [Js] at h
 | lookup t x k ok => simp [Js] at h
 | convert s d x =>
  simp only [Js] at h
  split at h <;> simp at h
 | _ => rfl
theorem JhD {P : Program} {fr fr' : Fr} {o : Op} (h : ∀ x ∈ o.operands.toList, ev fr x = ev fr' x) : JK P fr o = JK P fr' o := by
 cases o with
 | box t x => simp only [JK, h x (by simp [Op.operands])]
 | buildSlice t n ps =>
  have := Jcj (fr := fr) (fr' := fr') ps.toList (fun x hx => h x.2 (by simp [Op.operands]; exact ⟨x.1, by simpa using hx⟩))
  simp only [JK, this]
 | _ => rfl
theorem JjA {P : Program} {fr fr' : Fr} {st : St} {o : Op} (h : ∀ x ∈ o.operands.toList, ev fr x = ev fr' x) : QL P fr st o = QL P fr' st o := by
 cases o with
 | store t a x => simp only [QL, h a (by simp [Op.operands]), h x (by simp [Op.operands])]
 | makeSlice t l c => simp only [QL, h l (by simp [Op.operands]), h c (by simp [Op.operands])]
 | insert t m k x => simp only [QL, h m (by simp [Op.operands]), h k (by simp [Op.operands]), h x (by simp [Op.operands])]
 | mapUpdate t m k x => simp only [QL, h m (by simp [Op.operands]), h k (by simp [Op.operands]), h x (by simp [Op.operands])]
 | range t x => simp only [QL, h x (by simp [Op.operands])]
 | next x b => simp only [QL, h x (by simp [Op.operands])]
 | convert s d x => simp only [QL, h x (by simp [Op.operands])]
 | makeMap t r => cases r <;> rfl
 | call c =>
  obtain ⟨callee, args, ts⟩ := c
  have h1 : ∀ x ∈ args.toList, ev fr x = ev fr' x := fun x hx => h x (by simp only [Op.operands, Call.operands, Array.toList_append, List.mem_append]; exact .inr hx)
  cases callee with
  | builtin b =>
   cases b <;> simp only [QL]
   case append =>
    split
    ·rename_i x y t u hx ht
     rw [h1 x (by rw [hx]; simp), h1 y (by rw [hx]; simp)]
    ·rfl
   case copy =>
    split
    ·rename_i x y t u hx ht
     rw [h1 x (by rw [hx]; simp), h1 y (by rw [hx]; simp)]
    ·rfl
   case unsafeString =>
    split
    ·rename_i x y t u hx ht
     rw [h1 x (by rw [hx]; simp), h1 y (by rw [hx]; simp)]
    ·rfl
  | _ => rfl
 | _ => rfl
theorem JjB {P : Program} {ih : CallF} {fr fr' : Fr} {st : St} {o : Op} (hgl : fr.gl = fr'.gl) (h : ∀ x ∈ o.operands.toList, ev fr x = ev fr' x) : Qk P ih fr st o = Qk P ih fr' st o := by
 have ha := JjA (P := P) (st := st) h
 cases o with
 | panic x => simp only [Qk, h x (by simp [Op.operands])]
 | call c =>
  obtain ⟨callee, args, ts⟩ := c
  have h1 : ∀ x ∈ args.toList, ev fr x = ev fr' x := fun x hx => h x (by simp only [Op.operands, Call.operands, Array.toList_append, List.mem_append]; exact .inr hx)
  have h2 := Jcp (fr := fr) (fr' := fr') args.toList h1
  cases callee with
  | builtin b => simp only [Qk, ha]
  | value f =>
   have h3 := h f (by simp [Op.operands, Call.operands])
   simp only [Qk, h2, h3, hgl]
  | invoke r m =>
   have h3 := h r (by simp [Op.operands, Call.operands])
   simp only [Qk, h2, h3, hgl]
 | _ => simp only [Qk, ha]
theorem JgI {ops : Array Oper} {fr fr' : Fr} {o : Oper} (h : ∀ t ∈ looks ops o, Fr.at fr t = Fr.at fr' t) : Jm ops fr o = Jm ops fr' o := by
 unfold Jm
 cases hg : o.guard with
 | none => rfl
 | some p =>
  obtain ⟨j, want⟩ := p
  simp only
  cases hj : ops[j]? with
  | none => rfl
  | some q =>
   simp only
   cases hd : q.dst with
   | none => rfl
   | some d =>
    simp only
    rw [h d (by simp [looks, hg, hj, hd])]
theorem Jd1 {ops : Array Oper} {fr fr' : Fr} {o : Oper} (hgl : fr.gl = fr'.gl) (h : ∀ t ∈ looks ops o, Fr.at fr t = Fr.at fr' t) : ∀ x ∈ o.op.operands.toList, ev fr x = ev fr' x := by
 intro x hx
 refine JlZ hgl fun t ht => ?_
 subst ht
 exact h t (by simp only [looks, List.mem_append, List.mem_filterMap]; exact .inl ⟨_, hx, rfl⟩)
mutual
theorem JdG : ∀ (d : Nat) (a b : V), veq d a b = true → a = b
 | 0, _, _, h => by simp [veq] at h
 | d + 1, a, b, h => by
  cases a <;> cases b <;> simp only [veq, Bool.and_eq_true, beq_iff_eq, decide_eq_true_eq, Bool.false_eq_true] at h <;> try (first | rfl | exact h.elim)
  case bool.bool => rw [h]
  case int.int => rw [h.1, h.2]
  case str.str x y => cases x; cases y; simp only [Nat.beq_eq] at h; rw [h.1, h.2]
  case sl.sl => rw [h.1.1, h.1.2, Jce d _ _ h.2]
  case ms.ms => rw [h.1.1.1.1, h.1.1.1.2, h.1.1.2, h.1.2, h.2]
  case yld.yld => rw [h]
  case mapp.mapp => rw [h]
  case cp.cp => rw [Jce d _ _ h]
  case ptr.ptr => rw [h.1, h.2]
  case agg.agg => rw [Jce d _ _ h]
  case tup.tup => rw [Jce d _ _ h]
  case fn.fn => rw [h.1.1, Jce d _ _ h.1.2, Jce d _ _ h.2]
  case iface.iface => rw [h.1, JdG d _ _ h.2]
theorem Jce : ∀ (d : Nat) (a b : List V), Jdq d a b = true → a = b
 | 0, _, _, h => by simp [Jdq] at h
 | d + 1, [], [], h => rfl
 | d + 1, [], _ :: _, h => by simp [Jdq] at h
 | d + 1, _ :: _, [], h => by simp [Jdq] at h
 | d + 1, a :: x, b :: y, h => by
  simp only [Jdq, Bool.and_eq_true] at h
  rw [JdG d a b h.1, Jce d x y h.2]
end
def bit (b : List Nat) (i j : Nat) : Prop := (b.getD i 0).testBit j = true
structure Pl (P : Program) (ops : Array Oper) (b l : List Nat) : Prop where
 nodup : ∀ (p q i : Nat), l[p]? = some i → l[q]? = some i → p = q
 lt : ∀ (p i : Nat), l[p]? = some i → i < ops.size
 all : ∀ (i : Nat), i < ops.size → ∃ p : Nat, l[p]? = some i
 dst1 : ∀ (i j : Nat) (x y : Oper) (d : Tmp), i ≠ j → ops[i]? = some x → ops[j]? = some y → x.dst = some d → y.dst ≠ some d
 slot : ∀ (i j : Nat) (x y : Oper) (d : Tmp), i ≠ j → ops[i]? = some x → ops[j]? = some y → x.dst = some d → d ∈ looks ops y → bit b j i ∨ bit b i j
 pre : ∀ (p i : Nat) (o : Oper) (e : Edge), l[p]? = some i → ops[i]? = some o → e ∈ o.after.toList → Region.binds .any e = true → ∃ q : Nat, q < p ∧ l[q]? = some e.on
 anc : ∀ (p i : Nat) (o : Oper) (j : Nat), l[p]? = some i → ops[i]? = some o → bit b i j → (∃ q : Nat, q < p ∧ l[q]? = some j) ∧ ∃ e ∈ o.after.toList, Region.binds .any e = true ∧ (e.on = j ∨ bit b e.on j)
 act : ∀ (p i q k : Nat), l[p]? = some i → isE P ops i = true → q < p → l[q]? = some k → bit b i k
theorem Je8 : ∀ (l : List Nat), JhQ l = true → ∀ (p q i : Nat), l[p]? = some i → l[q]? = some i → p = q
 | [], _, p, q, i, h, _ => by simp at h
 | x :: xs, hn, p, q, i, h1, h2 => by
  simp only [JhQ, Bool.and_eq_true, Bool.not_eq_true', List.contains_eq_mem, decide_eq_false_iff_not] at hn
  cases p with
  | zero =>
   cases q with
   | zero => rfl
   | succ q =>
    simp at h1 h2
    subst h1
    exact absurd (List.mem_of_getElem? h2) hn.1
  | succ p =>
   cases q with
   | zero =>
    simp at h1 h2
    subst h2
    exact absurd (List.mem_of_getElem? h1) hn.1
   | succ q =>
    simp at h1 h2
    rw [Je8 xs hn.2 p q i h1 h2]
theorem JfX {P : Program} {ops : Array Oper} {b : List Nat} {n : Nat} : ∀ (l pre : List Nat), JkL P ops b n pre l = true → ∀ (p i : Nat), l[p]? = some i →
  ∃ o, ops[i]? = some o ∧ (∀ e ∈ o.after.toList, Region.binds .any e = true → e.on ∈ pre ∨ ∃ q : Nat, q < p ∧ l[q]? = some e.on) ∧
   (∀ j, j < n → bit b i j → (j ∈ pre ∨ ∃ q : Nat, q < p ∧ l[q]? = some j) ∧ ∃ e ∈ o.after.toList, Region.binds .any e = true ∧ (e.on = j ∨ bit b e.on j)) ∧
   (isE P ops i = true → ∀ k, (k ∈ pre ∨ ∃ q : Nat, q < p ∧ l[q]? = some k) → bit b i k)
 | [], pre, _, p, i, h => by simp at h
 | x :: xs, pre, hr, p, i, h => by
  simp only [JkL, Bool.and_eq_true] at hr
  obtain ⟨h0, h1⟩ := hr
  cases p with
  | zero =>
   simp at h
   subst h
   split at h0
   ·simp at h0
   ·rename_i o ho
    simp only [Bool.and_eq_true, List.all_eq_true, Bool.or_eq_true, Bool.not_eq_true', List.contains_eq_mem, decide_eq_true_eq, List.any_eq_true, beq_iff_eq, List.mem_range] at h0
    obtain ⟨⟨a1, a2⟩, a3⟩ := h0
    refine ⟨o, ho, fun e he hb => ?_, fun j hj hb => ?_, fun hE k hk => ?_⟩
    ·rcases a1 e he with h | h
     ·rw [hb] at h; simp at h
     ·exact .inl h
    ·rcases a2 j hj with h | ⟨h, e, he, hbe, h2⟩
     ·unfold bit at hb; rw [hb] at h; simp at h
     ·exact ⟨.inl h, e, he, hbe, h2⟩
    ·rcases a3 with h | h
     ·rw [hE] at h; simp at h
     ·rcases hk with hk | ⟨q, hq, _⟩
      ·exact h k hk
      ·omega
  | succ p =>
   simp at h
   obtain ⟨o, ho, b1, b2, b3⟩ := JfX xs (x :: pre) h1 p i h
   have conv : ∀ k, (k ∈ x :: pre ∨ ∃ q : Nat, q < p ∧ xs[q]? = some k) ↔ (k ∈ pre ∨ ∃ q : Nat, q < p + 1 ∧ (x :: xs)[q]? = some k) := by
    intro k
    constructor
    ·rintro (h | ⟨q, hq, hk⟩)
     ·rcases List.mem_cons.1 h with rfl | h
      ·exact .inr ⟨0, by omega, rfl⟩
      ·exact .inl h
     ·exact .inr ⟨q + 1, by omega, by simpa using hk⟩
    ·rintro (h | ⟨q, hq, hk⟩)
     ·exact .inl (List.mem_cons_of_mem _ h)
     ·cases q with
      | zero => simp at hk; exact .inl (by rw [hk]; exact List.mem_cons_self)
      | succ q => exact .inr ⟨q, by omega, by simpa using hk⟩
   exact ⟨o, ho, fun e he hb => (conv _).1 (b1 e he hb), fun j hj hb => ⟨(conv _).1 (b2 j hj hb).1, (b2 j hj hb).2⟩, fun hE k hk => b3 hE k ((conv k).2 hk)⟩
theorem Jii {P : Program} {ops : Array Oper} {b l : List Nat} (h : Jbb P ops b l = true) : Pl P ops b l := by
 simp only [Jbb, Bool.and_eq_true] at h
 obtain ⟨⟨⟨⟨⟨⟨h1, h2⟩, h3⟩, h4⟩, h5⟩, h6⟩, _⟩ := h
 have hrow := JfX l [] h6
 have hbits : ∀ i j, bit b i j → j < ops.size := by
  intro i j hb
  unfold bit at hb
  rcases Nat.lt_or_ge j ops.size with hj | hj
  ·exact hj
  ·exfalso
   have hlt : b.getD i 0 < 2 ^ ops.size := by
    cases hbi : b[i]? with
    | none => simp [hbi]; exact Nat.two_pow_pos _
    | some m =>
     simp only [List.getD_eq_getElem?_getD, hbi, Option.getD_some]
     have := List.all_eq_true.1 h4 m (List.mem_of_getElem? hbi)
     simpa [Nat.blt_eq] using this
   rw [Nat.testBit_lt_two_pow (Nat.lt_of_lt_of_le hlt (Nat.pow_le_pow_right (by omega) hj))] at hb
   simp at hb
 refine ⟨Je8 l h1, fun p i hp => ?_, fun i hi => ?_, fun i j x y d hij hx hy hd => ?_, fun i j x y d hij hx hy hd hl => ?_, fun p i o e hp ho he hb => ?_, fun p i o j hp ho hb => ?_, fun p i q k hp hE hq hk => ?_⟩
 ·have := List.all_eq_true.1 h2 i (List.mem_of_getElem? hp)
  simpa [Nat.blt_eq] using this
 ·have := List.all_eq_true.1 h3 i (List.mem_range.2 hi)
  simp only [List.contains_eq_mem, decide_eq_true_eq] at this
  obtain ⟨p, hp, hpe⟩ := List.getElem_of_mem this
  exact ⟨p, by rw [List.getElem?_eq_getElem hp, hpe]⟩
 ·have hi : i < ops.size := (Array.getElem?_eq_some_iff.1 hx).1
  have hj : j < ops.size := (Array.getElem?_eq_some_iff.1 hy).1
  have := List.all_eq_true.1 h5 i (List.mem_range.2 hi)
  simp only [hx, hd] at this
  have := List.all_eq_true.1 this j (List.mem_range.2 hj)
  simp only [hy, Bool.or_eq_true, beq_iff_eq, Bool.and_eq_true, bne_iff_ne, ne_eq] at this
  rcases this with h | h
  ·exact absurd h hij
  ·exact h.1
 ·have hi : i < ops.size := (Array.getElem?_eq_some_iff.1 hx).1
  have hj : j < ops.size := (Array.getElem?_eq_some_iff.1 hy).1
  have := List.all_eq_true.1 h5 i (List.mem_range.2 hi)
  simp only [hx, hd] at this
  have := List.all_eq_true.1 this j (List.mem_range.2 hj)
  simp only [hy, Bool.or_eq_true, beq_iff_eq, Bool.and_eq_true, bne_iff_ne, ne_eq, Bool.not_eq_true', List.contains_eq_mem, decide_eq_false_iff_not] at this
  rcases this with h | ⟨_, (h | h) | h⟩
  ·exact absurd h hij
  ·exact absurd hl h
  ·exact .inl h
  ·exact .inr h
 ·obtain ⟨o', ho', b1, _, _⟩ := hrow p i hp
  have : o' = o := by rw [ho] at ho'; simpa using ho'.symm
  subst this
  simpa using b1 e he hb
 ·obtain ⟨o', ho', _, b2, _⟩ := hrow p i hp
  have : o' = o := by rw [ho] at ho'; simpa using ho'.symm
  subst this
  obtain ⟨c1, c2⟩ := b2 j (hbits i j hb) hb
  exact ⟨by simpa using c1, c2⟩
 ·obtain ⟨o', ho', _, _, b3⟩ := hrow p i hp
  exact b3 hE k (.inr ⟨q, hq, hk⟩)
theorem Je9 {P : Program} {ih : CallF} {ops : Array Oper} {b : List Nat} {c0 : Nat} : ∀ (l : List Nat) (d0 d : Drw), QM P ih ops b c0 l d0 = some d →
  ∃ D : Nat → Drw, D 0 = d0 ∧ D l.length = d ∧ ∀ (p i : Nat), l[p]? = some i → Q9 P ih ops b c0 i (D p) = some (D (p + 1))
 | [], d0, d, h => by
  simp only [QM, Option.some.injEq] at h
  exact ⟨fun _ => d0, rfl, h, fun p i hp => by simp at hp⟩
 | x :: xs, d0, d, h => by
  simp only [QM] at h
  split at h
  ·rename_i d1 h1
   obtain ⟨D, e1, e2, e3⟩ := Je9 xs d1 d h
   refine ⟨fun p => match p with | 0 => d0 | p + 1 => D p, rfl, e2, fun p i hp => ?_⟩
   cases p with
   | zero => simp at hp; subst hp; show Q9 P ih ops b c0 x d0 = some (D 0); rw [e1]; exact h1
   | succ p => simp at hp; exact e3 p i hp
  ·simp at h
end Go.Vm
namespace Go.Vm
open Go Go.RowKit
structure SS.sub (u s : SS) : Prop where
 ctr : u.ctr = s.ctr
 box : ∀ i x, u.box i = some x → s.box i = some x
theorem Own.sub {u s : SS} (h : u.sub s) {g : Gh} {b : Nat} (ho : Own g u b) : Own g s b := by
 obtain ⟨i, x, o, bs, h1, h2⟩ := ho
 exact ⟨i, x, o, bs, h.box i x h1, h2⟩
theorem Inv.sub {base : Nat} {g : Gh} {u s : SS} {w : World} (hi : Inv base g s w) (h : u.sub s) : Inv base g u w := by
 refine ⟨hi.size, hi.pub, fun i x hb => hi.box i x (h.box i x hb), hi.boxat, fun i j x y b o bs o' bs' h1 h2 => hi.boxinj i j x y b o bs o' bs' (h.box i x h1) (h.box j y h2), fun k hk => ?_⟩
 obtain ⟨f1, f4⟩ := hi.fresh k (by rw [← h.ctr]; exact hk)
 refine ⟨f1, ?_⟩
 cases hb : u.box k with
 | none => rfl
 | some x => rw [h.box k x hb] at f4; simp at f4
def SS.join (s u u' : SS) : SS :=
 { ctr := u'.ctr, box := fun i => match u'.box i with
  | some x => some x
  | none => match u.box i with
   | none => s.box i
   | some _ => none }
theorem Inv.join {base : Nat} {g g' : Gh} {u u' s : SS} {w w' : World} (hi : Inv base g s w) (hs : u.sub s) (hi' : Inv base g' u' w') (hx : Ext base g u w g' u' w') :
  Inv base g' (s.join u u') w' ∧ Ext base g s w g' (s.join u u') w' := by
 have side : ∀ i x, u.box i = none → s.box i = some x → i < u.ctr := fun i x _ h2 => by
  rcases Nat.lt_or_ge i u.ctr with h | h
  ·exact h
  ·have := (hi.fresh i (by rw [← hs.ctr]; exact h)).2; rw [this] at h2; simp at h2
 have jb : ∀ i x, (s.join u u').box i = some x → u'.box i = some x ∨ (u.box i = none ∧ s.box i = some x ∧ g'.box i = g.box i) := fun i x h => by
  have h : (match u'.box i with | some cs => some cs | none => match u.box i with | none => s.box i | some _ => none) = some x := h
  cases h1 : u'.box i with
  | some c1 => rw [h1] at h; exact .inl h
  | none =>
   rw [h1] at h
   cases h2 : u.box i with
   | some c2 => rw [h2] at h; simp at h
   | none =>
    rw [h2] at h
    exact .inr ⟨rfl, h, (hx.keep i (side i x h2 h) h2).2⟩
 have nown : ∀ i x b o bs, u.box i = none → s.box i = some x → g.box i = some (b, o, bs) → ¬ Own g u b := fun i x b o bs h1 h2 h3 ho => by
  obtain ⟨j, y, o', bs', q1, q2⟩ := ho
  have := hi.boxinj i j x y b o bs o' bs' h2 (hs.box j y q1) h3 q2
  subst this
  rw [h1] at q1; simp at q1
 have mixed : ∀ i j x y b o bs o' bs', u'.box i = some x → u.box j = none → s.box j = some y → g'.box j = g.box j → g'.box i = some (b, o, bs) → g'.box j = some (b, o', bs') → False := fun i j x y b o bs o' bs' h1 h2 h3 h4 h5 h6 => by
  rw [h4] at h6
  have hlt := (hi.boxat j b o' bs' h6).2.1
  exact nown j y b o' bs' h2 h3 h6 (hx.noth b hlt ⟨i, x, o, bs, h1, h5⟩)
 refine ⟨⟨hi'.size, hi'.pub, fun i x h => ?_, hi'.boxat, fun i j x y b o bs o' bs' h1 h2 h3 h4 => ?_, fun k hk => ?_⟩,
  ⟨hx.le, by rw [← hs.ctr]; exact hx.ctr, hx.below, fun b hb ho => hx.own b hb (fun h => ho (h.sub hs)), fun b hb ho => ?_, fun i hi2 hn => ?_⟩⟩
 ·rcases jb i x h with h | ⟨h1, h2, h3⟩
  ·exact hi'.box i x h
  ·obtain ⟨b, o, bs, m, q1, q2, q3⟩ := hi.box i x h2
   have hlt := (Array.getElem?_eq_some_iff.1 q2).1
   exact ⟨b, o, bs, m, by rw [h3]; exact q1, by rw [hx.own b hlt (nown i x b o bs h1 h2 q1)]; exact q2, q3.mono hx.le⟩
 ·rcases jb i x h1 with q1 | ⟨p1, p2, p3⟩
  ·rcases jb j y h2 with q2 | ⟨r1, r2, r3⟩
   ·exact hi'.boxinj i j x y b o bs o' bs' q1 q2 h3 h4
   ·exact (mixed i j x y b o bs o' bs' q1 r1 r2 r3 h3 h4).elim
  ·rcases jb j y h2 with q2 | ⟨r1, r2, r3⟩
   ·exact (mixed j i y x b o' bs' o bs q2 p1 p2 p3 h4 h3).elim
   ·exact hi.boxinj i j x y b o bs o' bs' p2 r2 (by rw [← p3]; exact h3) (by rw [← r3]; exact h4)
 ·obtain ⟨f1, f4⟩ := hi'.fresh k hk
  refine ⟨f1, ?_⟩
  have hk' : u'.ctr ≤ k := hk
  have hks : s.ctr ≤ k := by rw [← hs.ctr]; exact Nat.le_trans hx.ctr hk'
  show (match u'.box k with | some cs => some cs | none => match u.box k with | none => s.box k | some _ => none) = none
  rw [f4]
  cases h2 : u.box k with
  | some c2 => rfl
  | none => exact (hi.fresh k hks).2
 ·obtain ⟨i, x, o, bs, h1, h2⟩ := ho
  rcases jb i x h1 with h | ⟨q1, q2, q3⟩
  ·exact (hx.noth b hb ⟨i, x, o, bs, h, h2⟩).sub hs
  ·exact ⟨i, x, o, bs, q2, by rw [← q3]; exact h2⟩
 ·have hu : u.box i = none := by
   cases h : u.box i with
   | none => rfl
   | some x => rw [hs.box i x h] at hn; simp at hn
  obtain ⟨q1, q2⟩ := hx.keep i (by rw [hs.ctr]; exact hi2) hu
  refine ⟨?_, q2⟩
  show (match u'.box i with | some cs => some cs | none => match u.box i with | none => s.box i | some _ => none) = none
  rw [q1, hu]; exact hn
theorem Fr.to_gl (fr : Fr) (d : Option Tmp) (v : V) : (Fr.to fr d v).gl = fr.gl := by cases d <;> rfl
theorem Fr.to_ds (fr : Fr) (d : Option Tmp) (v : V) : (Fr.to fr d v).ds = fr.ds := by cases d <;> rfl
theorem Fr.at_to (fr : Fr) (d : Option Tmp) (v : V) (t : Nat) : Fr.at (Fr.to fr d v) t = if d = some t then v else Fr.at fr t := by
 cases d with
 | none => rfl
 | some k =>
  simp only [Fr.to, Fr.at, Tr.get_put]
  by_cases h : t = k
  ·subst h; simp
  ·have : ¬ (some k = some t) := fun e => h (by simpa using e.symm)
   simp [h, this]
section
variable {P : Program} {ih : CallF} {ops : Array Oper} {b : List Nat} {c0 : Nat}
inductive Sp (P : Program) (ih : CallF) (ops : Array Oper) (b : List Nat) (c0 i : Nat) (o : Oper) (d d' : Drw) : Prop where
 | off (hw : Jm ops d.fr o = false) (h : d' = { fr := Fr.to d.fr o.dst .undef, st := d.st, snaps := if isE P ops i then (i, d.st) :: d.snaps else d.snaps })
 | p (hw : Jm ops d.fr o = true) (hk : Js P o.op = .p) (v : V) (hv : JB P d.fr d.st o.op = some v) (h : d' = { d with fr := Fr.to d.fr o.dst v })
 | r (hw : Jm ops d.fr o = true) (hk : Js P o.op = .r) (v : V) (hv : JM P d.fr o.op v (b.getD i 0) d.snaps = true) (h : d' = { d with fr := Fr.to d.fr o.dst v })
 | a (hw : Jm ops d.fr o = true) (hk : Js P o.op = .a) (cs : List V) (e : TypeId) (n : Option (Nat × Nat)) (hv : JK P d.fr o.op = some (cs, e, n)) (h1 : cs.all Qn = true)
   (h : d' = { fr := Fr.to d.fr o.dst (Qq (c0 + i) n), st := { d.st with box := d.st.box.put (c0 + i) (.cells cs e true (some 0)) }, snaps := d.snaps })
 | e (hw : Jm ops d.fr o = true) (hk : Js P o.op = .e) (v : V) (st' : St) (hv : Qk P ih d.fr d.st o.op = .val v st') (h : d' = { fr := Fr.to d.fr o.dst v, st := st', snaps := (i, st') :: d.snaps })
theorem JfG {i : Nat} {o : Oper} (ho : ops[i]? = some o) : isE P ops i = (Js P o.op == .e) := by simp [isE, ho]
theorem Jcn {i : Nat} {d d' : Drw} (h : Q9 P ih ops b c0 i d = some d') : ∃ o, ops[i]? = some o ∧ Sp P ih ops b c0 i o d d' := by
 unfold Q9 at h
 split at h
 rotate_left
 ·simp at h
 rename_i o ho
 refine ⟨o, ho, ?_⟩
 have hE := JfG (P := P) ho
 split at h
 ·rename_i hw
  simp only [Option.some.injEq] at h
  refine .off hw (h.symm.trans ?_)
  rw [hE]
  cases hk : Js P o.op <;> simp
 ·rename_i hw
  split at h
  ·rename_i hk
   split at h
   ·rename_i v hv
    simp only [Option.some.injEq] at h
    exact .p hw hk v hv h.symm
   ·simp at h
  ·rename_i hk
   split at h
   ·split at h
    ·rename_i v hv
     split at h
     ·rename_i hs
      simp only [Option.some.injEq] at h
      exact .r hw hk v hs h.symm
     ·simp at h
    ·simp at h
   ·simp at h
  ·rename_i hk
   split at h
   ·rename_i cs e n hv
    split at h
    ·rename_i h1
     simp only [Option.some.injEq] at h
     exact .a hw hk cs e n hv h1 h.symm
    ·simp at h
   ·simp at h
  ·rename_i hk
   split at h
   ·rename_i v st' hv
    simp only [Option.some.injEq] at h
    exact .e hw hk v st' hv h.symm
   ·simp at h
theorem Sp.fr {i : Nat} {o : Oper} {d d' : Drw} (h : Sp P ih ops b c0 i o d d') : ∃ v, d'.fr = Fr.to d.fr o.dst v := by
 cases h with
 | off hw h => exact ⟨_, by rw [h]⟩
 | p hw hk v hv h => exact ⟨_, by rw [h]⟩
 | r hw hk v hv h => exact ⟨_, by rw [h]⟩
 | a hw hk cs e n hv h1 h => exact ⟨_, by rw [h]⟩
 | e hw hk v st' hv h => exact ⟨_, by rw [h]⟩
theorem Sp.snaps {i : Nat} {o : Oper} {d d' : Drw} (ho : ops[i]? = some o) (h : Sp P ih ops b c0 i o d d') : d'.snaps = if isE P ops i then (i, d'.st) :: d.snaps else d.snaps := by
 have hE := JfG (P := P) ho
 cases h with
 | off hw h => rw [h]
 | p hw hk v hv h => rw [h, hE, hk]; simp
 | r hw hk v hv h => rw [h, hE, hk]; simp
 | a hw hk cs e n hv h1 h => rw [h, hE, hk]; simp
 | e hw hk v st' hv h => rw [h, hE, hk]; simp
variable {l : List Nat} {D : Nat → Drw} (pl : Pl P ops b l) (hD : ∀ (p i : Nat), l[p]? = some i → Q9 P ih ops b c0 i (D p) = some (D (p + 1)))
include pl hD
theorem Jji : ∀ (p : Nat), p ≤ l.length → ∀ (q i : Nat) (o : Oper) (t : Tmp), q < p → l[q]? = some i → ops[i]? = some o → o.dst = some t → Fr.at (D p).fr t = Fr.at (D (q + 1)).fr t
 | 0, _, q, i, o, t, hq, _, _, _ => by omega
 | p + 1, hp, q, i, o, t, hq, hl, ho, hd => by
  by_cases hqp : q = p
  ·subst hqp; rfl
  ·have h1 := Jji p (by omega) q i o t (by omega) hl ho hd
   have hlp : l[p]? = some l[p] := List.getElem?_eq_getElem (by omega)
   obtain ⟨o', ho', sp⟩ := Jcn (hD p _ hlp)
   obtain ⟨v, hv⟩ := sp.fr
   rw [hv, Fr.at_to]
   have hne : i ≠ l[p] := fun e => hqp (pl.nodup q p i hl (by rw [hlp, e]))
   rw [if_neg (pl.dst1 i _ o o' t hne ho ho' hd)]
   exact h1
omit pl in
theorem JfH : ∀ (p : Nat), p ≤ l.length → ∀ (t : Tmp), (∀ (q i : Nat) (o : Oper), q < p → l[q]? = some i → ops[i]? = some o → o.dst ≠ some t) → Fr.at (D p).fr t = Fr.at (D 0).fr t
 | 0, _, t, _ => rfl
 | p + 1, hp, t, hn => by
  have h1 := JfH p (by omega) t (fun q i o hq => hn q i o (by omega))
  have hlp : l[p]? = some l[p] := List.getElem?_eq_getElem (by omega)
  obtain ⟨o', ho', sp⟩ := Jcn (hD p _ hlp)
  obtain ⟨v, hv⟩ := sp.fr
  rw [hv, Fr.at_to, if_neg (hn p _ o' (by omega) hlp ho')]
  exact h1
omit pl in
theorem Jjj : ∀ (p : Nat), p ≤ l.length → (D p).fr.gl = (D 0).fr.gl ∧ (D p).fr.ds = (D 0).fr.ds
 | 0, _ => ⟨rfl, rfl⟩
 | p + 1, hp => by
  have h1 := Jjj p (by omega)
  have hlp : l[p]? = some l[p] := List.getElem?_eq_getElem (by omega)
  obtain ⟨o', ho', sp⟩ := Jcn (hD p _ hlp)
  obtain ⟨v, hv⟩ := sp.fr
  rw [hv, Fr.to_gl, Fr.to_ds]
  exact h1
omit pl hD
def XA (P : Program) (ops : Array Oper) (c0 : Nat) (l : List Nat) (D : Nat → Drw) (q id : Nat) (x : Bx) : Prop :=
 ∃ (i : Nat) (o : Oper), l[q]? = some i ∧ ops[i]? = some o ∧ Js P o.op = .a ∧ Jm ops (D q).fr o = true ∧ id = c0 + i ∧ ∃ cs e n, JK P (D q).fr o.op = some (cs, e, n) ∧ x = .cells cs e true (some 0)
include pl hD
theorem Joj (p : Nat) (hfresh : ∀ (q i : Nat), p ≤ q → l[q]? = some i → (D p).st.box.get (c0 + i) = none) : ∀ (m : Nat), p + m ≤ l.length → (∀ (q i : Nat), p ≤ q → q < p + m → l[q]? = some i → isE P ops i = false) →
  (D (p + m)).st.ctr = (D p).st.ctr ∧ ∀ id cs, (D (p + m)).st.box.get id = some cs ↔ ((D p).st.box.get id = some cs ∨ ∃ q, p ≤ q ∧ q < p + m ∧ XA P ops c0 l D q id cs)
 | 0, _, _ => ⟨rfl, fun id cs => ⟨fun h => .inl h, fun h => by rcases h with h | ⟨q, h1, h2, _⟩; exact h; omega⟩⟩
 | m + 1, hm, hE => by
  obtain ⟨e1, e3⟩ := Joj p hfresh m (by omega) (fun q i h1 h2 => hE q i h1 (by omega))
  have hlp : l[p + m]? = some l[p + m] := List.getElem?_eq_getElem (by omega)
  obtain ⟨o, ho, sp⟩ := Jcn (hD (p + m) _ hlp)
  have hnE := hE (p + m) _ (by omega) (by omega) hlp
  have hkE := JfG (P := P) ho
  rw [hnE] at hkE
  have same : (D (p + m + 1)).st = (D (p + m)).st → ¬ (Js P o.op = .a ∧ Jm ops (D (p + m)).fr o = true) → _ := fun hst hno => (show
   (D (p + (m + 1))).st.ctr = (D p).st.ctr ∧ ∀ id cs, (D (p + (m + 1))).st.box.get id = some cs ↔ ((D p).st.box.get id = some cs ∨ ∃ q, p ≤ q ∧ q < p + (m + 1) ∧ XA P ops c0 l D q id cs) from by
    rw [← Nat.add_assoc, hst]
    refine ⟨e1, fun id cs => ?_⟩
    rw [e3]
    constructor
    ·rintro (h | ⟨q, h1, h2, h3⟩)
     ·exact .inl h
     ·exact .inr ⟨q, h1, by omega, h3⟩
    ·rintro (h | ⟨q, h1, h2, h3⟩)
     ·exact .inl h
     ·by_cases hq : q = p + m
      ·subst hq
       obtain ⟨i, o', q1, q2, q3, q4, _⟩ := h3
       have : i = l[p + m] := by rw [hlp] at q1; simpa using q1.symm
       subst this
       have : o' = o := by rw [ho] at q2; simpa using q2.symm
       subst this
       exact absurd ⟨q3, q4⟩ hno
      ·exact .inr ⟨q, h1, by omega, h3⟩)
  cases sp with
  | off hw h => exact same (by rw [h]) (fun hh => by rw [hw] at hh; simp at hh)
  | p hw hk v hv h => exact same (by rw [h]) (fun hh => by rw [hk] at hh; simp at hh)
  | r hw hk v hv h => exact same (by rw [h]) (fun hh => by rw [hk] at hh; simp at hh)
  | e hw hk v st' hv h => rw [hk] at hkE; simp at hkE
  | a hw hk cs0 e0 n0 hv h1 h =>
   rw [← Nat.add_assoc, h]
   refine ⟨e1, fun id cs => ?_⟩
   show ((D (p + m)).st.box.put (c0 + l[p + m]) (.cells cs0 e0 true (some 0))).get id = some cs ↔ _
   rw [Tr.get_put]
   by_cases hid : id = c0 + l[p + m]
   ·rw [if_pos hid]
    constructor
    ·intro hc
     simp only [Option.some.injEq] at hc
     subst hc
     exact .inr ⟨p + m, by omega, by omega, _, o, hlp, ho, hk, hw, hid, cs0, e0, n0, hv, rfl⟩
    ·rintro (hc | ⟨q, h1, h2, i, o', q1, q2, q3, q4, q5, cs1, e1', n1, q6, rfl⟩)
     ·rw [hid, hfresh (p + m) _ (by omega) hlp] at hc; simp at hc
     ·have hil : i = l[p + m] := by omega
      have hq : q = p + m := pl.nodup q (p + m) i q1 (by rw [hlp, hil])
      subst hq
      subst hil
      have : o' = o := by rw [ho] at q2; simpa using q2.symm
      subst this
      rw [hv] at q6
      simp only [Option.some.injEq, Prod.mk.injEq] at q6
      obtain ⟨rfl, rfl, _⟩ := q6
      rfl
   ·rw [if_neg hid, e3]
    constructor
    ·rintro (hc | ⟨q, h1, h2, h3⟩)
     ·exact .inl hc
     ·exact .inr ⟨q, h1, by omega, h3⟩
    ·rintro (hc | ⟨q, h1, h2, h3⟩)
     ·exact .inl hc
     ·by_cases hq : q = p + m
      ·subst hq
       obtain ⟨i, o', q1, q2, q3, q4, q5, _⟩ := h3
       have : i = l[p + m] := by rw [hlp] at q1; simpa using q1.symm
       exact absurd (by rw [q5, this]) hid
      ·exact .inr ⟨q, h1, by omega, h3⟩
omit pl in
theorem Jh8 {fr : Fr} {o : Op} {v : V} {m ps : Nat} (hps : ps = 0 ∨ ∃ i, 0 < ps ∧ l[ps - 1]? = some i ∧ isE P ops i = true) (h0 : ∃ k, (D 0).snaps = [(k, (D 0).st)]) :
  ∀ (p : Nat), p ≤ l.length → ps ≤ p → (∀ (q i : Nat), ps ≤ q → q < p → l[q]? = some i → isE P ops i = true → m.testBit i = false) → JM P fr o v m (D p).snaps = true → JB P fr (D ps).st o = some v
 | 0, _, h1, _, hs => by
  have : ps = 0 := by omega
  subst this
  obtain ⟨k, hk⟩ := h0
  rw [hk] at hs
  simp only [JM, Bool.and_eq_true] at hs
  have h1 := hs.1
  split at h1
  ·rename_i u hu
   rw [hu, JdG _ _ _ h1]
  ·simp at h1
 | p + 1, hp, h1, hno, hs => by
  have hlp : l[p]? = some l[p] := List.getElem?_eq_getElem (by omega)
  obtain ⟨o', ho', sp⟩ := Jcn (hD p _ hlp)
  rw [sp.snaps ho'] at hs
  have rec_ := fun hle => Jh8 (fr := fr) (o := o) (v := v) hps h0 p (by omega) hle (fun q i a1 a2 => hno q i a1 (by omega))
  by_cases hE : isE P ops l[p] = true
  ·rw [if_pos hE] at hs
   simp only [JM, Bool.and_eq_true, Bool.or_eq_true] at hs
   by_cases hpp : ps = p + 1
   ·subst hpp
    have h1 := hs.1
    split at h1
    ·rename_i u hu
     rw [hu, JdG _ _ _ h1]
    ·simp at h1
   ·rcases hs.2 with hb | hs2
    ·have := hno p _ (by omega) (by omega) hlp hE
     rw [this] at hb; simp at hb
    ·exact rec_ (by omega) hs2
  ·rw [if_neg hE] at hs
   by_cases hpp : ps = p + 1
   ·rcases hps with h | ⟨i, hp0, hi, hEi⟩
    ·omega
    ·rw [hpp, Nat.add_sub_cancel, hlp] at hi
     simp only [Option.some.injEq] at hi
     subst hi
     exact absurd hEi hE
   ·exact rec_ (by omega) hs
end
end Go.Vm
namespace Go.Vm
open Go Go.RowKit
section
variable {P : Program} {ih : CallF} {ops : Array Oper} {b : List Nat} {c0 : Nat} {l : List Nat} {D : Nat → Drw} {base N : Nat} {g0 : Gh} {s0 : SS} {w0 : World}
structure J [Memo] (P : Program) (ops : Array Oper) (b : List Nat) (c0 : Nat) (l : List Nat) (D : Nat → Drw) (base N : Nat) (g0 : Gh) (s0 : SS) (w0 : World)
  (li : Array Bool) (ps : Nat) (g : Gh) (s : SS) (fr : Fr) (a : Act) (w : World) : Prop where
 lsz : li.size = ops.size
 down : ∀ i j, li.getD i false = true → bit b i j → li.getD j false = true
 f1 : ∀ (p i : Nat) (o : Oper) (t : Tmp), l[p]? = some i → li.getD i false = true → ops[i]? = some o → o.dst = some t → Fr.at fr t = Fr.at (D (p + 1)).fr t
 f2 : ∀ (t : Tmp), (∀ (i : Nat) (o : Oper), li.getD i false = true → ops[i]? = some o → o.dst ≠ some t) → Fr.at fr t = Fr.at (D 0).fr t
 fra : FR g N fr a
 psle : ps ≤ l.length
 h1 : ∀ (q i : Nat), q < ps → l[q]? = some i → li.getD i false = true
 h2 : ∀ (q i : Nat), ps ≤ q → l[q]? = some i → isE P ops i = true → li.getD i false = false
 inv : Inv base g s w
 sctr : (D ps).st.ctr = s.ctr
 same : fr.gl = (D 0).fr.gl ∧ fr.ds = (D 0).fr.ds
 s1 : ∀ (id : Nat) (cs : Bx), (D ps).st.box.get id = some cs → s.box id = some cs
 s2 : ∀ (q i id : Nat) (cs : Bx), ps ≤ q → l[q]? = some i → li.getD i false = true → XA P ops c0 l D q id cs → s.box id = some cs
 s3 : ∀ (id : Nat) (cs : Bx), s.box id = some cs → (D ps).st.box.get id = some cs ∨ ∃ (q i : Nat), ps ≤ q ∧ l[q]? = some i ∧ li.getD i false = true ∧ XA P ops c0 l D q id cs
 g1 : ∀ (i : Nat), i < ops.size → li.getD i false = false → g.box (c0 + i) = none ∧ s.box (c0 + i) = none
 fresh : ∀ (q i : Nat), ps ≤ q → l[q]? = some i → (D ps).st.box.get (c0 + i) = none
 cge : c0 + ops.size ≤ s.ctr
 ext : Ext base g0 s0 w0 g s w
theorem QV {li : Array Bool} {i : Nat} (hi : i < li.size) (j : Nat) : (li.setIfInBounds i true).getD j false = if j = i then true else li.getD j false := by
 simp only [Array.getD_eq_getD_getElem?]
 by_cases h : j = i
 ·subst h; simp [hi]
 ·rw [Array.getElem?_setIfInBounds_ne (Ne.symm h), if_neg h]
variable (pl : Pl P ops b l) (hD : ∀ (p i : Nat), l[p]? = some i → Q9 P ih ops b c0 i (D p) = some (D (p + 1)))
theorem J.looks [Memo] (pl : Pl P ops b l) (hD : ∀ (p i : Nat), l[p]? = some i → Q9 P ih ops b c0 i (D p) = some (D (p + 1)))
  {li : Array Bool} {ps : Nat} {g : Gh} {s : SS} {fr : Fr} {a : Act} {w : World} (j : J P ops b c0 l D base N g0 s0 w0 li ps g s fr a w) {p i : Nat} {o : Oper} (hp : l[p]? = some i) (ho : ops[i]? = some o)
  (hni : li.getD i false = false) (hanc : ∀ k, bit b i k → li.getD k false = true) : ∀ t ∈ looks ops o, Fr.at fr t = Fr.at (D p).fr t := by
 intro t ht
 have hple : p ≤ l.length := Nat.le_of_lt (List.getElem?_eq_some_iff.1 hp).1
 by_cases hw : ∃ (k : Nat) (x : Oper), ops[k]? = some x ∧ x.dst = some t
 ·obtain ⟨k, x, hx, hd⟩ := hw
  have only : ∀ (k' : Nat) (x' : Oper), ops[k']? = some x' → x'.dst = some t → k' = k := fun k' x' hx' hd' => by
   rcases Nat.decEq k' k with h | h
   ·exact absurd hd (pl.dst1 k' k x' x t h hx' hx hd')
   ·exact h
  by_cases hki : k = i
  ·subst hki
   rw [j.f2 t (fun k' x' hl' hx' hd' => by
    have := only k' x' hx' hd'
    subst this
    rw [hni] at hl'; simp at hl')]
   rw [JfH hD p hple t (fun q k' x' hq hq' hx' hd' => by
    have := only k' x' hx' hd'
    subst this
    have := pl.nodup q p k' hq' hp
    omega)]
  ·rcases pl.slot k i x o t hki hx ho hd ht with hb | hb
   ·obtain ⟨⟨q, hq, hlq⟩, _⟩ := pl.anc p i o k hp ho hb
    rw [j.f1 q k x t hlq (hanc k hb) hx hd, Jji pl hD p hple q k x t hq hlq hx hd]
   ·have hkn : li.getD k false = false := by
     cases h : li.getD k false with
     | false => rfl
     | true => rw [j.down k i h hb] at hni; simp at hni
    rw [j.f2 t (fun k' x' hl' hx' hd' => by
     have := only k' x' hx' hd'
     subst this
     rw [hkn] at hl'; simp at hl')]
    rw [JfH hD p hple t (fun q k' x' hq hq' hx' hd' => by
     have := only k' x' hx' hd'
     subst this
     obtain ⟨⟨q', hq'', hlq'⟩, _⟩ := pl.anc q k' x i hq' hx hb
     have := pl.nodup q' p i hlq' hp
     omega)]
 ·have hno : ∀ (k : Nat) (x : Oper), ops[k]? = some x → x.dst ≠ some t := fun k x hx hd => hw ⟨k, x, hx, hd⟩
  rw [j.f2 t (fun k x _ hx => hno k x hx), JfH hD p hple t (fun q k x _ _ hx => hno k x hx)]
theorem J.frame [Memo] (pl : Pl P ops b l)
  {li : Array Bool} {ps : Nat} {g : Gh} {s : SS} {fr : Fr} {a : Act} {w : World} (j : J P ops b c0 l D base N g0 s0 w0 li ps g s fr a w) {p i : Nat} {o : Oper} (hp : l[p]? = some i) (ho : ops[i]? = some o)
  (hanc : ∀ k, bit b i k → li.getD k false = true) {v : V} (hv : (D (p + 1)).fr = Fr.to (D p).fr o.dst v) :
  (li.setIfInBounds i true).size = ops.size ∧
  (∀ x y, (li.setIfInBounds i true).getD x false = true → bit b x y → (li.setIfInBounds i true).getD y false = true) ∧
  (∀ (q k : Nat) (x : Oper) (t : Tmp), l[q]? = some k → (li.setIfInBounds i true).getD k false = true → ops[k]? = some x → x.dst = some t → Fr.at (Fr.to fr o.dst v) t = Fr.at (D (q + 1)).fr t) ∧
  (∀ (t : Tmp), (∀ (k : Nat) (x : Oper), (li.setIfInBounds i true).getD k false = true → ops[k]? = some x → x.dst ≠ some t) → Fr.at (Fr.to fr o.dst v) t = Fr.at (D 0).fr t) := by
 have hi : i < li.size := by rw [j.lsz]; exact pl.lt p i hp
 refine ⟨by simp [j.lsz], fun x y hx hb => ?_, fun q k x t hq hk hx hd => ?_, fun t hn => ?_⟩
 ·rw [QV hi] at hx ⊢
  split
  ·rfl
  ·split at hx
   ·rename_i h; subst h; exact hanc y hb
   ·exact j.down x y hx hb
 ·rw [QV hi] at hk
  rw [Fr.at_to]
  split at hk
  ·rename_i h
   subst h
   have : x = o := by rw [ho] at hx; simpa using hx.symm
   subst this
   have : q = p := pl.nodup q p k hq hp
   subst this
   rw [if_pos hd, hv, Fr.at_to, if_pos hd]
  ·rename_i h
   rw [if_neg (pl.dst1 k i x o t h hx ho hd)]
   exact j.f1 q k x t hq hk hx hd
 ·rw [Fr.at_to, if_neg (hn i o (by rw [QV hi, if_pos rfl]) ho)]
  exact j.f2 t (fun k x hk hx => hn k x (by rw [QV hi]; split; rfl; exact hk) hx)
theorem J.advance [Memo] (pl : Pl P ops b l) (hD : ∀ (p i : Nat), l[p]? = some i → Q9 P ih ops b c0 i (D p) = some (D (p + 1)))
  {li : Array Bool} {ps : Nat} {g : Gh} {s : SS} {fr : Fr} {a : Act} {w : World} (j : J P ops b c0 l D base N g0 s0 w0 li ps g s fr a w) {p : Nat} (hps : ps ≤ p) (hp : p ≤ l.length)
  (hin : ∀ (q i : Nat), ps ≤ q → q < p → l[q]? = some i → li.getD i false = true) : J P ops b c0 l D base N g0 s0 w0 li p g s fr a w := by
 have hE : ∀ (q i : Nat), ps ≤ q → q < ps + (p - ps) → l[q]? = some i → isE P ops i = false := fun q i a1 a2 a3 => by
  cases h : isE P ops i with
  | false => rfl
  | true => have := j.h2 q i a1 a3 h; rw [hin q i a1 (by omega) a3] at this; simp at this
 obtain ⟨e1, e3⟩ := Joj pl hD ps j.fresh (p - ps) (by omega) hE
 rw [show ps + (p - ps) = p from by omega] at e1 e3
 refine ⟨j.lsz, j.down, j.f1, j.f2, j.fra, hp, fun q i hq hl => ?_, fun q i hq hl hEi => j.h2 q i (by omega) hl hEi, j.inv, by rw [e1]; exact j.sctr, j.same, fun id cs h => ?_, fun q i id cs hq hl hi hx => j.s2 q i id cs (by omega) hl hi hx,
  fun id cs h => ?_, j.g1, fun q i hq hl => ?_, j.cge, j.ext⟩
 ·by_cases hqp : q < ps
  ·exact j.h1 q i hqp hl
  ·exact hin q i (by omega) hq hl
 ·rcases (e3 id cs).1 h with h | ⟨q, q1, q2, q3⟩
  ·exact j.s1 id cs h
  ·have q3' := q3
   obtain ⟨i, o, a1, _⟩ := q3'
   exact j.s2 q i id cs q1 a1 (hin q i q1 q2 a1) q3
 ·rcases j.s3 id cs h with h | ⟨q, i, q1, q2, q3, q4⟩
  ·exact .inl ((e3 id cs).2 (.inl h))
  ·by_cases hqp : q < p
   ·exact .inl ((e3 id cs).2 (.inr ⟨q, q1, hqp, q4⟩))
   ·exact .inr ⟨q, i, by omega, q2, q3, q4⟩
 ·cases h : (D p).st.box.get (c0 + i) with
  | none => rfl
  | some cs =>
   rcases (e3 _ cs).1 h with h | ⟨q', q1, q2, i', o', q3, _, _, _, q4, _⟩
   ·rw [j.fresh q i (by omega) hl] at h; simp at h
   ·have : i' = i := by omega
    subst this
    have := pl.nodup q' q i' q3 hl
    omega
theorem J.sub [Memo] {li : Array Bool} {ps : Nat} {g : Gh} {s : SS} {fr : Fr} {a : Act} {w : World} (j : J P ops b c0 l D base N g0 s0 w0 li ps g s fr a w) : (D ps).st.abs.sub s := ⟨j.sctr, j.s1⟩
end
end Go.Vm
namespace Go.Vm
open Go Go.RowKit
section
variable {P : Program} {ih : CallF} {ops : Array Oper} {b : List Nat} {c0 : Nat} {l : List Nat} {D : Nat → Drw} {base N : Nat} {g0 : Gh} {s0 : SS} {w0 : World}
def Pse (P : Program) (ops : Array Oper) (l : List Nat) (ps : Nat) : Prop := ps = 0 ∨ ∃ i, 0 < ps ∧ l[ps - 1]? = some i ∧ isE P ops i = true
theorem XA.notE {q id : Nat} {cs : Bx} (h : XA P ops c0 l D q id cs) {i : Nat} (hl : l[q]? = some i) : isE P ops i = false := by
 obtain ⟨i', o, q1, q2, q3, _⟩ := h
 have : i' = i := by rw [hl] at q1; simpa using q1.symm
 subst this
 rw [JfG q2, q3]; rfl
theorem J.act [Memo] (pl : Pl P ops b l) {li : Array Bool} {p : Nat} {g : Gh} {s : SS} {fr : Fr} {a : Act} {w : World} (j : J P ops b c0 l D base N g0 s0 w0 li p g s fr a w) {i : Nat} {o : Oper}
  (hp : l[p]? = some i) (ho : ops[i]? = some o) (hE : isE P ops i = true) (hanc : ∀ k, bit b i k → li.getD k false = true) (hdst : Jcz N o = true)
  {v : V} (hv : (D (p + 1)).fr = Fr.to (D p).fr o.dst v) {g' : Gh} {c : Value} {w' : World} (hr : R g' v c) (hi' : Inv base g' (D (p + 1)).st.abs w') (hx : Ext base g (D p).st.abs w g' (D (p + 1)).st.abs w') :
  J P ops b c0 l D base N g0 s0 w0 (li.setIfInBounds i true) (p + 1) g' (s.join (D p).st.abs (D (p + 1)).st.abs) (Fr.to fr o.dst v) (a.put o.dst c) w' := by
 obtain ⟨k1, k2, k3, k4⟩ := j.frame pl hp ho hanc hv
 have hi : i < li.size := by rw [j.lsz]; exact pl.lt p i hp
 have hplt : p < l.length := (List.getElem?_eq_some_iff.1 hp).1
 obtain ⟨m1, m2⟩ := j.inv.join j.sub hi' hx
 have hctr : (D p).st.ctr ≤ (D (p + 1)).st.ctr := hx.ctr
 have keep : ∀ k, k < ops.size → (D p).st.box.get (c0 + k) = none → (D (p + 1)).st.box.get (c0 + k) = none ∧ g'.box (c0 + k) = g.box (c0 + k) := fun k hk hn =>
  hx.keep (c0 + k) (by show c0 + k < (D p).st.ctr; rw [j.sctr]; have := j.cge; omega) hn
 refine ⟨k1, k2, k3, k4, (j.fra.mono hx.le).to hdst hr, by omega, fun q k hq hl => ?_, fun q k hq hl hEk => ?_, m1, rfl, by rw [Fr.to_gl, Fr.to_ds]; exact j.same, fun id cs h => ?_, fun q k id cs hq hl hk hXA => ?_, fun id cs h => ?_, fun k hk hn => ?_, fun q k hq hl => ?_, ?_, j.ext.trans m2⟩
 ·rw [QV hi]
  split
  ·rfl
  ·have : q ≠ p := fun e => by subst e; rw [hp] at hl; simp at hl; exact absurd hl.symm ‹_›
   exact hanc k (pl.act p i q k hp hE (by omega) hl)
 ·rw [QV hi, if_neg (fun e => by subst e; have := pl.nodup q p k hl hp; omega)]
  exact j.h2 q k (by omega) hl hEk
 ·show (match (D (p + 1)).st.box.get id with | some cs => some cs | none => _) = some cs
  rw [h]
 ·have hki : k ≠ i := fun e => by subst e; have := pl.nodup q p k hl hp; omega
  rw [QV hi, if_neg hki] at hk
  have h1 := j.s2 q k id cs (by omega) hl hk hXA
  have hXA' := hXA
  obtain ⟨k', o', q1, _, _, _, q2, _⟩ := hXA'
  have : k' = k := by rw [hl] at q1; simpa using q1.symm
  subst this
  subst q2
  have hn := j.fresh q k' (by omega) hl
  have := (keep k' (pl.lt q k' hl) hn).1
  show (match (D (p + 1)).st.box.get (c0 + k') with | some cs => some cs | none => match (D p).st.box.get (c0 + k') with | none => s.box (c0 + k') | some _ => none) = some cs
  rw [this, hn]; exact h1
 ·have h : (match (D (p + 1)).st.box.get id with | some cs => some cs | none => match (D p).st.box.get id with | none => s.box id | some _ => none) = some cs := h
  cases h1 : (D (p + 1)).st.box.get id with
  | some c1 => rw [h1] at h; exact .inl h
  | none =>
   rw [h1] at h
   cases h2 : (D p).st.box.get id with
   | some c2 => rw [h2] at h; simp at h
   | none =>
    rw [h2] at h
    rcases j.s3 id cs h with h | ⟨q, k, q1, q2, q3, q4⟩
    ·rw [h2] at h; simp at h
    ·by_cases hqp : q = p
     ·subst hqp
      have := q4.notE q2
      have hk : k = i := by rw [hp] at q2; simpa using q2.symm
      subst hk
      rw [hE] at this; simp at this
     ·exact .inr ⟨q, k, by omega, q2, by rw [QV hi]; split; rfl; exact q3, q4⟩
 ·rw [QV hi] at hn
  split at hn
  ·simp at hn
  ·obtain ⟨a1, a2⟩ := j.g1 k hk hn
   have hu : (D p).st.box.get (c0 + k) = none := by
    cases h : (D p).st.box.get (c0 + k) with
    | none => rfl
    | some cs => rw [j.s1 _ _ h] at a2; simp at a2
   obtain ⟨b1, b2⟩ := keep k hk hu
   refine ⟨by rw [b2]; exact a1, ?_⟩
   show (match (D (p + 1)).st.box.get (c0 + k) with | some cs => some cs | none => match (D p).st.box.get (c0 + k) with | none => s.box (c0 + k) | some _ => none) = none
   rw [b1, hu]; exact a2
 ·exact (keep k (pl.lt q k hl) (j.fresh q k (by omega) hl)).1
 ·show c0 + ops.size ≤ (D (p + 1)).st.ctr
  have := j.cge
  have := j.sctr
  omega
theorem J.quiet [Memo] (pl : Pl P ops b l) {li : Array Bool} {ps p : Nat} {g : Gh} {s : SS} {fr : Fr} {a : Act} {w : World} (j : J P ops b c0 l D base N g0 s0 w0 li ps g s fr a w) {i : Nat} {o : Oper}
  (hp : l[p]? = some i) (ho : ops[i]? = some o) (hE : isE P ops i = false) (hni : li.getD i false = false) (hnA : ∀ id cs, ¬ XA P ops c0 l D p id cs) (hanc : ∀ k, bit b i k → li.getD k false = true) (hdst : Jcz N o = true)
  {v : V} (hv : (D (p + 1)).fr = Fr.to (D p).fr o.dst v) {g' : Gh} {c : Value} {w' : World} (hr : R g' v c) (hi' : Inv base g' (D ps).st.abs w') (hx : Ext base g (D ps).st.abs w g' (D ps).st.abs w') :
  J P ops b c0 l D base N g0 s0 w0 (li.setIfInBounds i true) ps g' (s.join (D ps).st.abs (D ps).st.abs) (Fr.to fr o.dst v) (a.put o.dst c) w' := by
 obtain ⟨k1, k2, k3, k4⟩ := j.frame pl hp ho hanc hv
 have hi : i < li.size := by rw [j.lsz]; exact pl.lt p i hp
 obtain ⟨m1, m2⟩ := j.inv.join j.sub hi' hx
 have jb : ∀ id, (s.join (D ps).st.abs (D ps).st.abs).box id = s.box id := fun id => by
  show (match (D ps).st.box.get id with | some cs => some cs | none => match (D ps).st.box.get id with | none => s.box id | some _ => none) = s.box id
  cases h : (D ps).st.box.get id with
  | none => rfl
  | some cs => exact (j.s1 id cs h).symm
 refine ⟨k1, k2, k3, k4, (j.fra.mono hx.le).to hdst hr, j.psle, fun q k hq hl => ?_, fun q k hq hl hEk => ?_, m1, rfl, by rw [Fr.to_gl, Fr.to_ds]; exact j.same, fun id cs h => by rw [jb]; exact j.s1 id cs h, fun q k id cs hq hl hk hXA => ?_, fun id cs h => ?_, fun k hk hn => ?_, j.fresh,
  by show c0 + ops.size ≤ (D ps).st.ctr; rw [j.sctr]; exact j.cge, j.ext.trans m2⟩
 ·rw [QV hi]; split; rfl; exact j.h1 q k hq hl
 ·rw [QV hi, if_neg (fun e => by subst e; rw [hE] at hEk; simp at hEk)]
  exact j.h2 q k hq hl hEk
 ·rw [jb]
  rw [QV hi] at hk
  split at hk
  ·rename_i h
   subst h
   have := pl.nodup q p k hl hp
   subst this
   exact absurd hXA (hnA id cs)
  ·exact j.s2 q k id cs hq hl hk hXA
 ·rw [jb] at h
  rcases j.s3 id cs h with h | ⟨q, k, q1, q2, q3, q4⟩
  ·exact .inl h
  ·exact .inr ⟨q, k, q1, q2, by rw [QV hi]; split; rfl; exact q3, q4⟩
 ·rw [QV hi] at hn
  split at hn
  ·simp at hn
  ·obtain ⟨a1, a2⟩ := j.g1 k hk hn
   have := m2.keep (c0 + k) (by have := j.cge; omega) a2
   exact ⟨by rw [this.2]; exact a1, this.1⟩
theorem J.new [Memo] (pl : Pl P ops b l) (hc0 : s0.ctr ≤ c0) {li : Array Bool} {ps p : Nat} {g : Gh} {s : SS} {fr : Fr} {a : Act} {w : World} (j : J P ops b c0 l D base N g0 s0 w0 li ps g s fr a w) {i : Nat} {o : Oper}
  (hp : l[p]? = some i) (hps : ps ≤ p) (ho : ops[i]? = some o) (hE : isE P ops i = false) (hni : li.getD i false = false) (hanc : ∀ k, bit b i k → li.getD k false = true) (hdst : Jcz N o = true)
  (hk : Js P o.op = .a) (hw : Jm ops (D p).fr o = true) {cs : List V} {e : TypeId} {n : Option (Nat × Nat)} (hcs : JK P (D p).fr o.op = some (cs, e, n))
  (hv : (D (p + 1)).fr = Fr.to (D p).fr o.dst (Qq (c0 + i) n)) {lv : List Value} (hr : Rs g cs lv) {c : Value} (hc : ∀ g' id bs, g'.box id = some (w.heap.size, 0, bs) → R g' (Qq id n) c) :
  ∃ g', J P ops b c0 l D base N g0 s0 w0 (li.setIfInBounds i true) ps g' { (s.putBox (c0 + i) (.cells cs e true (some 0))) with ctr := s.ctr } (Fr.to fr o.dst (Qq (c0 + i) n)) (a.put o.dst c) (w.alloc (.cells ⟨lv⟩ e)) := by
 obtain ⟨k1, k2, k3, k4⟩ := j.frame pl hp ho hanc hv
 have hin : i < ops.size := pl.lt p i hp
 have hi : i < li.size := by rw [j.lsz]; exact hin
 obtain ⟨a1, a2⟩ := j.g1 i hin hni
 have hcge := j.cge
 obtain ⟨g', n1, n2, n3, n4, n5⟩ := j.inv.newBox (c0 + i) a1 a2 (JcR hr e) s.ctr (Nat.le_refl _) (by omega)
 have sb : ∀ id, ({ (s.putBox (c0 + i) (.cells cs e true (some 0))) with ctr := s.ctr } : SS).box id = if id = c0 + i then some (.cells cs e true (some 0)) else s.box id := fun _ => rfl
 refine ⟨g', k1, k2, k3, k4, (j.fra.mono n2).to hdst (hc g' _ _ n4), j.psle, fun q k hq hl => ?_, fun q k hq hl hEk => ?_, n1, j.sctr, by rw [Fr.to_gl, Fr.to_ds]; exact j.same, fun id ks h => ?_, fun q k id ks hq hl hkk hXA => ?_, fun id ks h => ?_, fun k hk' hn => ?_, j.fresh, hcge,
  ⟨j.ext.le.trans n2, j.ext.ctr, j.ext.below.alloc (Nat.le_trans j.inv.size (Nat.le_refl _)) _, fun b' hb' ho' => ?_, fun b' hb' ho' => j.ext.noth b' hb' (n3 b' (Nat.lt_of_lt_of_le hb' j.ext.below.size) ho'), fun k hk' hn => ?_⟩⟩
 ·rw [QV hi]; split; rfl; exact j.h1 q k hq hl
 ·rw [QV hi, if_neg (fun e => by subst e; rw [hE] at hEk; simp at hEk)]
  exact j.h2 q k hq hl hEk
 ·rw [sb, if_neg (fun e => by subst e; rw [j.fresh p i hps hp] at h; simp at h)]
  exact j.s1 id ks h
 ·rw [sb]
  rw [QV hi] at hkk
  have hXA' := hXA
  obtain ⟨k', o', q1, q2, q3, q4, q5, cs1, e1, n1', q6, q7⟩ := hXA'
  have : k' = k := by rw [hl] at q1; simpa using q1.symm
  subst this
  split at hkk
  ·rename_i h
   subst h
   have := pl.nodup q p k' hl hp
   subst this
   have : o' = o := by rw [ho] at q2; simpa using q2.symm
   subst this
   rw [hcs] at q6
   simp only [Option.some.injEq, Prod.mk.injEq] at q6
   obtain ⟨rfl, rfl, _⟩ := q6
   rw [if_pos q5, q7]
  ·rename_i h
   rw [if_neg (by omega)]
   exact j.s2 q k' id ks hq hl hkk hXA
 ·rw [sb] at h
  split at h
  ·rename_i hid
   simp only [Option.some.injEq] at h
   subst h
   exact .inr ⟨p, i, hps, hp, by rw [QV hi, if_pos rfl], i, o, hp, ho, hk, hw, hid, cs, e, n, hcs, rfl⟩
  ·rcases j.s3 id ks h with h | ⟨q, k, q1, q2, q3, q4⟩
   ·exact .inl h
   ·exact .inr ⟨q, k, q1, q2, by rw [QV hi]; split; rfl; exact q3, q4⟩
 ·rw [QV hi] at hn
  split at hn
  ·simp at hn
  ·rename_i hki
   obtain ⟨b1, b2⟩ := j.g1 k hk' hn
   exact ⟨by rw [n5 _ (by omega)]; exact b1, by rw [sb, if_neg (by omega)]; exact b2⟩
 ·rw [Below.heap_alloc w _ b' (Nat.lt_of_lt_of_le hb' j.ext.below.size)]
  exact j.ext.own b' hb' ho'
 ·obtain ⟨b1, b2⟩ := j.ext.keep k hk' hn
  have hne : k ≠ c0 + i := by omega
  exact ⟨by rw [sb, if_neg hne]; exact b1, (n5 k hne).trans b2⟩
theorem JdU {o : Op} (h : Js P o ≠ .e) : Jq o = false := by
 cases o <;> simp [Jq, Js] at h ⊢
theorem Jls {fr : Fr} {st : St} {o : Op} {v : V} {st' : St} (h : Qk P ih fr st o = .val v st') : Jq o = false := by
 cases o <;> first | rfl | (simp [Qk, QL] at h)
theorem Joe [Memo] (pl : Pl P ops b l) (hD : ∀ (p i : Nat), l[p]? = some i → Q9 P ih ops b c0 i (D p) = some (D (p + 1))) (hih : Jb9 P base ih) (hc0 : s0.ctr ≤ c0) (h0 : ∃ k, (D 0).snaps = [(k, (D 0).st)])
  {li : Array Bool} {ps p : Nat} {g : Gh} {s : SS} {fr : Fr} {a : Act} {w : World} (j : J P ops b c0 l D base N g0 s0 w0 li ps g s fr a w) (hpse : Pse P ops l ps) {i : Nat} {o : Oper}
  (hp : l[p]? = some i) (ho : ops[i]? = some o) (hni : li.getD i false = false) (hanc : ∀ k, bit b i k → li.getD k false = true) (hdst : Jcz N o = true) {K : Act → World → Prop} {Q : Exit → Act → World → Prop}
  (hK : ∀ ps' g' s' fr' a' w', Pse P ops l ps' → J P ops b c0 l D base N g0 s0 w0 (li.setIfInBounds i true) ps' g' s' fr' a' w' → K a' w') {rd : Option Nat} : wpOpIn (Fn rd) 0 P ops Q i K a w := by
 have hlk := j.looks pl hD hp ho hni hanc
 have hpl0 : p ≤ l.length := Nat.le_of_lt (List.getElem?_eq_some_iff.1 hp).1
 have hgl : fr.gl = (D p).fr.gl := by rw [j.same.1, (Jjj hD p hpl0).1]
 have hplt : p < l.length := (List.getElem?_eq_some_iff.1 hp).1
 have hps : ps ≤ p := by
  rcases Nat.lt_or_ge p ps with h | h
  ·have := j.h1 p i h hp; rw [this] at hni; simp at hni
  ·exact h
 obtain ⟨o', ho', sp⟩ := Jcn (hD p i hp)
 have : o' = o := by rw [ho] at ho'; simpa using ho'.symm
 subst this
 have hEk := JfG (P := P) ho
 have hwant := JgI hlk
 unfold wpOpIn
 simp only [ho, JdR j.fra]
 have adv : isE P ops i = true → J P ops b c0 l D base N g0 s0 w0 li p g s fr a w := fun hE => j.advance pl hD hps (by omega) (fun q k q1 q2 q3 => hanc k (pl.act p i q k hp hE q2 q3))
 have pse' : isE P ops i = true → Pse P ops l (p + 1) := fun hE => .inr ⟨i, by omega, by simpa using hp, hE⟩
 cases sp with
 | off hw h =>
  rw [← hwant] at hw
  simp only [hw, Bool.false_eq_true, if_false]
  refine ⟨fun _ _ => trivial, ?_⟩
  have hv : (D (p + 1)).fr = Fr.to (D p).fr o'.dst .undef := by rw [h]
  have hst : (D (p + 1)).st = (D p).st := by rw [h]
  by_cases hE : isE P ops i = true
  ·have j2 := adv hE
   exact hK _ _ _ _ _ _ (pse' hE) (j2.act pl hp ho hE hanc hdst hv (R.undef g) (by rw [hst]; exact j2.inv.sub j2.sub) (by rw [hst]; exact Ext.refl _ _ _ _))
  ·have hE : isE P ops i = false := by simpa using hE
   refine hK _ _ _ _ _ _ hpse (j.quiet pl hp ho hE hni (fun id cs hX => ?_) hanc hdst hv (R.undef g) (j.inv.sub j.sub) (Ext.refl _ _ _ _))
   obtain ⟨i', o2, q1, q2, q3, q4, _⟩ := hX
   have : i' = i := by rw [hp] at q1; simpa using q1.symm
   subst this
   have : o2 = o' := by rw [ho] at q2; simpa using q2.symm
   subst this
   rw [← hwant] at q4
   rw [hw] at q4; simp at q4
 | p hw hk v hv h =>
  rw [← hwant] at hw
  simp only [hw, if_true]
  have hfr : (D (p + 1)).fr = Fr.to (D p).fr o'.dst v := by rw [h]
  have hE : isE P ops i = false := by rw [hEk, hk]; rfl
  have h1 : JB P fr (D ps).st o'.op = some v := by
   rw [Je7 (Jd1 hgl hlk), JnD hk (st' := (D p).st)]; exact hv
  obtain ⟨g', c, w', q1, q2, q3, q4⟩ := JbW (j.inv.sub j.sub) j.fra o' h1
  refine Jbc (JdU (by rw [hk]; simp)) ?_
  have goal : K (a.put o'.dst c) w' := hK _ _ _ _ _ _ hpse (j.quiet pl hp ho hE hni (fun id cs hX => by
   obtain ⟨i', o2, r1, r2, r3, _⟩ := hX
   have : i' = i := by rw [hp] at r1; simpa using r1.symm
   subst this
   have : o2 = o' := by rw [ho] at r2; simpa using r2.symm
   subst this
   rw [hk] at r3; simp at r3) hanc hdst hfr q2 q3 q4)
  rcases q1 with q1 | ⟨q1, rfl⟩
  ·rw [q1]; exact goal
  ·rw [q1]; exact goal
 | r hw hk v hv h =>
  rw [← hwant] at hw
  simp only [hw, if_true]
  have hfr : (D (p + 1)).fr = Fr.to (D p).fr o'.dst v := by rw [h]
  have hE : isE P ops i = false := by rw [hEk, hk]; rfl
  have h1 : JB P fr (D ps).st o'.op = some v := by
   rw [Je7 (Jd1 hgl hlk)]
   refine Jh8 hD hpse h0 p (by omega) hps (fun q k q1 q2 q3 q4 => ?_) hv
   cases hb : (b.getD i 0).testBit k with
   | false => rfl
   | true => have := hanc k hb; rw [j.h2 q k q1 q3 q4] at this; simp at this
  obtain ⟨g', c, w', q1, q2, q3, q4⟩ := JbW (j.inv.sub j.sub) j.fra o' h1
  refine Jbc (JdU (by rw [hk]; simp)) ?_
  have goal : K (a.put o'.dst c) w' := hK _ _ _ _ _ _ hpse (j.quiet pl hp ho hE hni (fun id cs hX => by
   obtain ⟨i', o2, r1, r2, r3, _⟩ := hX
   have : i' = i := by rw [hp] at r1; simpa using r1.symm
   subst this
   have : o2 = o' := by rw [ho] at r2; simpa using r2.symm
   subst this
   rw [hk] at r3; simp at r3) hanc hdst hfr q2 q3 q4)
  rcases q1 with q1 | ⟨q1, rfl⟩
  ·rw [q1]; exact goal
  ·rw [q1]; exact goal
 | a hw hk cs e n hcs h1 h =>
  have hw0 := hw
  rw [← hwant] at hw
  simp only [hw, if_true]
  have hfr : (D (p + 1)).fr = Fr.to (D p).fr o'.dst (Qq (c0 + i) n) := by rw [h]
  have hE : isE P ops i = false := by rw [hEk, hk]; rfl
  have hcs' : JK P fr o'.op = some (cs, e, n) := by rw [JhD (Jd1 hgl hlk)]; exact hcs
  obtain ⟨lv, c, q1, q2, q3⟩ := JdQ j.fra o' hcs' w
  obtain ⟨g', j'⟩ := j.new pl hc0 hp hps ho hE hni hanc hdst hk hw0 hcs hfr q2 q3
  refine Jbc (JdU (by rw [hk]; simp)) ?_
  rw [q1]
  exact hK _ _ _ _ _ _ hpse j'
 | e hw hk v st' hv h =>
  rw [← hwant] at hw
  simp only [hw, if_true]
  have hE : isE P ops i = true := by rw [hEk, hk]; rfl
  have j2 := adv hE
  have hfr : (D (p + 1)).fr = Fr.to (D p).fr o'.dst v := by rw [h]
  have hst : (D (p + 1)).st = st' := by rw [h]
  refine JkO hih (j2.inv.sub j2.sub) j2.fra o' (Jls hv) ?_
  rw [JjB hgl (Jd1 hgl hlk), hv]
  intro g' c w' r1 r2 r3
  exact hK _ _ _ _ _ _ (pse' hE) (j2.act pl hp ho hE hanc hdst hfr r1 (by rw [hst]; exact r2) (by rw [hst]; exact r3))
end
end Go.Vm
namespace Go.Vm
open Go Go.RowKit
theorem Inv.raise {base : Nat} {g : Gh} {s : SS} {w : World} (hi : Inv base g s w) (n : Nat) : Inv base g { s with ctr := s.ctr + n } w :=
 ⟨hi.size, hi.pub, hi.box, hi.boxat, hi.boxinj, fun k hk => hi.fresh k (Nat.le_trans (Nat.le_add_right _ _) hk)⟩
section
variable {P : Program} {ih : CallF} {ops : Array Oper} {b : List Nat} {c0 : Nat} {l : List Nat} {D : Nat → Drw} {base N : Nat} {g0 : Gh} {s0 : SS} {w0 : World}
theorem J.done [Memo] (pl : Pl P ops b l) (hD : ∀ (p i : Nat), l[p]? = some i → Q9 P ih ops b c0 i (D p) = some (D (p + 1)))
  {li : Array Bool} {ps : Nat} {g : Gh} {s : SS} {fr : Fr} {a : Act} {w : World} (j : J P ops b c0 l D base N g0 s0 w0 li ps g s fr a w) (hall : ∀ i, i < ops.size → li.getD i false = true) :
  FR g N (D l.length).fr a ∧ Inv base g (D l.length).st.abs w ∧ Ext base g0 s0 w0 g (D l.length).st.abs w := by
 have j2 := j.advance pl hD (p := l.length) j.psle (Nat.le_refl _) (fun q i _ _ hl => hall i (pl.lt q i hl))
 obtain ⟨hg1, hg2⟩ := Jjj hD l.length (Nat.le_refl _)
 refine ⟨⟨j.fra.size, by rw [hg2, ← j.same.2]; exact j.fra.defers, by rw [hg1, ← j.same.1]; exact j.fra.gl, fun t => ?_⟩, j2.inv.sub j2.sub, ?_⟩
 ·have he : Fr.at (D l.length).fr t = Fr.at fr t := by
   by_cases hw : ∃ (q i : Nat) (o : Oper), l[q]? = some i ∧ ops[i]? = some o ∧ o.dst = some t
   ·obtain ⟨q, i, o, h1, h2, h3⟩ := hw
    rw [j.f1 q i o t h1 (hall i (pl.lt q i h1)) h2 h3, Jji pl hD l.length (Nat.le_refl _) q i o t (List.getElem?_eq_some_iff.1 h1).1 h1 h2 h3]
   ·rw [JfH hD l.length (Nat.le_refl _) t (fun q i o _ h1 h2 h3 => hw ⟨q, i, o, h1, h2, h3⟩), j.f2 t (fun i o _ h2 h3 => by
     have hi : i < ops.size := (Array.getElem?_eq_some_iff.1 h2).1
     obtain ⟨q, hq⟩ := pl.all i hi
     exact hw ⟨q, i, o, hq, h2, h3⟩)]
  rw [he]
  exact j.fra.at_ t
 ·have x := j2.ext
  refine ⟨x.le, by show s0.ctr ≤ (D l.length).st.ctr; rw [j2.sctr]; exact x.ctr, x.below, x.own, fun b' hb' ho => x.noth b' hb' (ho.sub j2.sub), fun i hi hn => ?_⟩
  obtain ⟨h1, h2⟩ := x.keep i hi hn
  refine ⟨?_, h2⟩
  cases h : (D l.length).st.abs.box i with
  | none => rfl
  | some cs => rw [j2.s1 i cs h] at h1; simp at h1
theorem JmE [Memo] (pl : Pl P ops b l) (hD : ∀ (p i : Nat), l[p]? = some i → Q9 P ih ops b c0 i (D p) = some (D (p + 1))) (hih : Jb9 P base ih) (hc0 : s0.ctr ≤ c0) (h0 : ∃ k, (D 0).snaps = [(k, (D 0).st)])
  (hd : ∀ o ∈ ops.toList, Jcz N o = true) {Q : Exit → Act → World → Prop} {rd : Option Nat}
  (hQ : ∀ g' a' w', FR g' N (D l.length).fr a' → Inv base g' (D l.length).st.abs w' → Ext base g0 s0 w0 g' (D l.length).st.abs w' → Q .normal a' w') :
  ∀ (fuel : Nat) (li : Array Bool) (rem : List Nat) (ps : Nat) (g : Gh) (s : SS) (fr : Fr) (a : Act) (w : World), J P ops b c0 l D base N g0 s0 w0 li ps g s fr a w → Pse P ops l ps →
   (∀ i, i < ops.size → li.getD i false = false → i ∈ rem) → rem.length ≤ fuel → wpAnyIn (Fn rd) 0 P .any ops Q fuel li a w := by
 have dflt : ∀ (li : Array Bool) (i : Nat), li.size = ops.size → i < ops.size → li.getD i true = li.getD i false := fun li i h1 h2 => by
  simp [Array.getD, h1, h2]
 have fin : ∀ {li ps g s fr a w}, J P ops b c0 l D base N g0 s0 w0 li ps g s fr a w → (∀ i, i < ops.size → li.getD i false = true) → Q .normal a w := fun j hall => by
  obtain ⟨h1, h2, h3⟩ := j.done pl hD hall
  exact hQ _ _ _ h1 h2 h3
 intro fuel
 induction fuel with
 | zero =>
  intro li rem ps g s fr a w j hpse hrem hlen
  have hnil : rem = [] := List.eq_nil_of_length_eq_zero (by omega)
  subst hnil
  have hall : ∀ i, i < ops.size → li.getD i false = true := fun i hi => by
   cases h : li.getD i false with
   | true => rfl
   | false => exact absurd (hrem i hi h) (by simp)
  refine ⟨?_, fin j hall⟩
  unfold Region.ready
  rw [List.filter_eq_nil_iff]
  intro i hi
  have hi := List.mem_range.1 hi
  rw [dflt li i j.lsz hi, hall i hi]
  simp
 | succ fuel ihf =>
  intro li rem ps g s fr a w j hpse hrem hlen
  refine ⟨fun hr => fin j ?_, fun i hi => ?_⟩
  ·
   have key : ∀ (p i : Nat), l[p]? = some i → li.getD i false = true := by
    intro p
    induction p using Nat.strongRecOn with
    | _ p ihp =>
     intro i hl
     cases h : li.getD i false with
     | true => rfl
     | false =>
      exfalso
      have hi := pl.lt p i hl
      obtain ⟨o, ho⟩ : ∃ o, ops[i]? = some o := ⟨ops[i], Array.getElem?_eq_getElem hi⟩
      have hmem : i ∈ Region.ready .any ops li := by
       unfold Region.ready
       rw [List.mem_filter]
       refine ⟨List.mem_range.2 hi, ?_⟩
       rw [dflt li i j.lsz hi, h]
       simp only [Bool.not_false, Bool.true_and, ho, Option.map_some, Option.getD_some]
       rw [← Array.all_toList]
       rw [List.all_eq_true]
       intro e he
       cases hb : Region.binds .any e with
       | false => rfl
       | true =>
        obtain ⟨q, hq, hlq⟩ := pl.pre p i o e hl ho he hb
        rw [ihp q hq e.on hlq]; rfl
      rw [hr] at hmem
      simp at hmem
   intro i hi
   obtain ⟨p, hp⟩ := pl.all i hi
   exact key p i hp
  ·unfold Region.ready at hi
   rw [List.mem_filter] at hi
   obtain ⟨hi1, hi2⟩ := hi
   have hin := List.mem_range.1 hi1
   simp only [Bool.and_eq_true, Bool.not_eq_true'] at hi2
   obtain ⟨hi2, hi3⟩ := hi2
   rw [dflt li i j.lsz hin] at hi2
   obtain ⟨o, ho⟩ : ∃ o, ops[i]? = some o := ⟨ops[i], Array.getElem?_eq_getElem hin⟩
   simp only [ho, Option.map_some, Option.getD_some] at hi3
   rw [← Array.all_toList, List.all_eq_true] at hi3
   obtain ⟨p, hp⟩ := pl.all i hin
   have hanc : ∀ k, bit b i k → li.getD k false = true := fun k hk => by
    obtain ⟨_, e, he, hb, h⟩ := pl.anc p i o k hp ho hk
    have := hi3 e he
    rw [hb] at this
    have hon : li.getD e.on false = true := by simpa using this
    rcases h with h | h
    ·rw [← h]; exact hon
    ·exact j.down _ _ hon h
   have hom : o ∈ ops.toList := List.mem_of_getElem? (i := i) (by rw [Array.getElem?_toList]; exact ho)
   refine Joe pl hD hih hc0 h0 j hpse hp ho hi2 hanc (hd o hom) (fun ps' g' s' fr' a' w' q1 q2 => ?_)
   refine ihf (li.setIfInBounds i true) (rem.erase i) ps' g' s' fr' a' w' q2 q1 (fun k hk hn => ?_) ?_
   ·rw [QV (by rw [j.lsz]; exact hin)] at hn
    split at hn
    ·simp at hn
    ·rename_i hne
     exact (List.mem_erase_of_ne hne).2 (hrem k hk hn)
   ·have := hrem i hin hi2
    rw [List.length_erase_of_mem this]
    omega
end
theorem JnT [Memo] {P : Program} {base : Nat} (hm : P.follows .mixedOrders = true) : Jke P base := by
 intro ih hih id ops b l N g fr st a w d hpl hrun hd hf hi Q rd hQ
 have pl := Jii hpl
 obtain ⟨D, d0, dn, hD⟩ := Je9 l _ d hrun
 refine wpIn_region_any hm ?_
 have hs0 : (D 0).st.abs = { st.abs with ctr := st.ctr + ops.size } := by rw [d0]; rfl
 have hi0 : Inv base g (D 0).st.abs w.drew := by rw [hs0]; exact (hi.raise ops.size).drew
 have hli : ∀ i, (Array.replicate ops.size false).getD i false = false := fun i => by
  simp only [Array.getD_eq_getD_getElem?, Array.getElem?_replicate]
  split <;> rfl
 refine JmE (c0 := st.ctr) (g0 := g) (s0 := st.abs) (w0 := w) (D := D) (N := N) pl hD hih (Nat.le_refl _) ⟨ops.size, by rw [d0]⟩ hd (by rw [dn]; exact hQ) ops.size _ (List.range ops.size) 0 g (D 0).st.abs fr a w.drew ?_ (.inl rfl) (fun i hi _ => List.mem_range.2 hi) (by simp)
 refine ⟨by simp, fun i j h => ?_, fun p i o t _ h => ?_, fun t _ => by rw [d0], hf, Nat.zero_le _, fun q i hq => by omega, fun q i _ _ _ => hli i, hi0, rfl, by rw [d0]; exact ⟨rfl, rfl⟩, fun _ _ h => h, fun q i id cs _ _ h => ?_, fun id cs h => .inl h, fun i hi' _ => ?_, fun q i _ hl => ?_, ?_, ?_⟩
 ·rw [hli] at h; simp at h
 ·rw [hli] at h; simp at h
 ·rw [hli] at h; simp at h
 ·obtain ⟨f1, f4⟩ := hi.fresh (st.ctr + i) (Nat.le_add_right _ _)
  exact ⟨f1, by rw [hs0]; exact f4⟩
 ·obtain ⟨f1, f4⟩ := hi.fresh (st.ctr + i) (Nat.le_add_right _ _)
  rw [d0]; exact f4
 ·rw [hs0]; exact Nat.le_refl _
 ·rw [hs0]
  exact ⟨.refl g, Nat.le_add_right _ _, (Below.refl _ _).drew, fun _ _ _ => rfl, fun b' _ h => h, fun i _ h => ⟨h, rfl⟩⟩
theorem sound [Memo] {P : Program} (hm : P.follows .mixedOrders = true) (base : Nat) (hmemo : JdV P base) (n : Nat) : Jb9 P base (ihCall (X P n)) := (Jni hmemo (JnT hm) n).2.2.1
def worldGh (w : World) : Gh := ⟨fun b o => w.cell? ⟨b, o, none⟩, fun _ => none⟩
theorem Inv.empty (w : World) : Inv w.heap.size (worldGh w) (⟨0, .nil⟩ : St).abs w :=
 ⟨Nat.le_refl _, fun _ _ _ h => h, fun i x h => by simp [St.abs, Tr.get] at h, fun _ _ _ _ h => by simp [worldGh] at h, fun _ _ _ _ _ _ _ _ _ h => by simp [St.abs, Tr.get] at h, fun _ _ => ⟨rfl, rfl⟩⟩
theorem GlV.nil (g : Gh) : GlV g .nil := fun k cs h => by simp [Tr.get] at h
theorem GlV.put {g : Gh} {gl : Gl} (h : GlV g gl) {k : Nat} {cs : List V} {l : List Value} (h1 : Rs g cs l) (h2 : g.has k 0 l) : GlV g (gl.put k cs) := fun j ds hj => by
 rw [Tr.get_put] at hj
 split at hj
 ·rename_i hjk
  subst hjk
  simp only [Option.some.injEq] at hj; subst hj
  exact ⟨l, h1, h2⟩
 ·exact h j ds hj
end Go.Vm
