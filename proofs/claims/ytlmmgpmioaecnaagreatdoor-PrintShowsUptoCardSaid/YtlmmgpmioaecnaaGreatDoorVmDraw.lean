/- Regions that draw their order: whatever order comes up, the end is the evaluator's. -/
import Derived.Test.YtlmmgpmioaecnaaGreatDoorVmCall3
namespace Go.Vm
open Go Go.RowKit
theorem JmI {fr fr' : Fr} (hgl : fr.gl = fr'.gl) {x : Operand} (h : ∀ t, x = .tmp t → Fr.at fr t = Fr.at fr' t) : ev fr x = ev fr' x := by
 cases x with
 | tmp t => simp only [ev]; rw [h t rfl]
 | global k => simp only [ev]; rw [hgl]
 | _ => rfl
theorem Jco {fr fr' : Fr} : ∀ (xs : List Operand), (∀ x ∈ xs, ev fr x = ev fr' x) → evs fr xs = evs fr' xs
 | [], _ => rfl
 | x :: xs, h => by
  have h1 := h x (by simp)
  have h2 := Jco xs (fun y hy => h y (by simp [hy]))
  unfold evs at h2 ⊢
  simp only [Jc, h1, h2]
theorem Jcc {fr fr' : Fr} : ∀ (xs : List (Nat × Operand)), (∀ x ∈ xs, ev fr x.2 = ev fr' x.2) → Jx fr xs = Jx fr' xs
 | [], _ => rfl
 | (i, x) :: xs, h => by
  have h1 := h (i, x) (by simp)
  have h2 := Jcc xs (fun y hy => h y (by simp [hy]))
  simp only at h1
  simp only [Jx, h1, h2]
theorem JeO {fr fr' : Fr} {x : Option Operand} (h : ∀ y, x = some y → ev fr y = ev fr' y) : JU fr x = JU fr' x := by
 cases x with
 | none => rfl
 | some y => simp only [JU, h y rfl]
theorem JeP {P : Program} {fr fr' : Fr} {st : St} {o : Op} (h : ∀ x ∈ o.operands.toList, ev fr x = ev fr' x) : Jy P fr st o = Jy P fr' st o := by
 cases o with
 | build t ps =>
  have := Jcc (fr := fr) (fr' := fr') ps.toList (fun x hx => h x.2 (by simp [Op.operands]; exact ⟨x.1, by simpa using hx⟩))
  simp only [Jy, this]
 | makeFunc f a c =>
  have h1 := Jco (fr := fr) (fr' := fr') a.toList (fun x hx => h x (by simp only [Op.operands, Array.toList_append, List.mem_append]; exact .inl hx))
  have h2 := Jco (fr := fr) (fr' := fr') c.toList (fun x hx => h x (by simp only [Op.operands, Array.toList_append, List.mem_append]; exact .inr hx))
  cases f <;> simp only [Jy, h1, h2]
 | slice t x lo hi mx =>
  have h1 := h x (by simp [Op.operands])
  have h2 := JeO (fr := fr) (fr' := fr') (x := lo) (fun y hy => h y (by subst hy; simp [Op.operands]))
  have h3 := JeO (fr := fr) (fr' := fr') (x := hi) (fun y hy => h y (by subst hy; simp [Op.operands]))
  cases mx with
  | none => simp only [Jy, h1, h2, h3]
  | some m =>
   have h4 := h m (by simp [Op.operands])
   cases hi with
   | none => rfl
   | some y =>
    have h5 := h y (by simp [Op.operands])
    simp only [Jy, h1, h2, h4, h5]
 | call c =>
  obtain ⟨callee, args, ts⟩ := c
  have h1 : ∀ x ∈ args.toList, ev fr x = ev fr' x := fun x hx => h x (by simp only [Op.operands, Call.operands, Array.toList_append, List.mem_append]; exact .inr hx)
  have h2 := Jco (fr := fr) (fr' := fr') args.toList h1
  cases callee with
  | builtin b =>
   cases b <;> simp only [Jy, h2]
   case len =>
    split
    ·rename_i x t r hx ht
     rw [h1 x (by rw [hx]; simp)]
    ·rfl
   case cap =>
    split
    ·rename_i x t r hx ht
     rw [h1 x (by rw [hx]; simp)]
    ·rfl
   case unsafeSliceData =>
    split
    ·rename_i x hx
     rw [h1 x (by rw [hx]; simp)]
    ·rfl
  | _ => rfl
 | binOp op t x y u => simp only [Jy, h x (by simp [Op.operands]), h y (by simp [Op.operands])]
 | indexAddr t x i => simp only [Jy, h x (by simp [Op.operands]), h i (by simp [Op.operands])]
 | index t x i => simp only [Jy, h x (by simp [Op.operands]), h i (by simp [Op.operands])]
 | pick c x y => simp only [Jy, h c (by simp [Op.operands]), h x (by simp [Op.operands]), h y (by simp [Op.operands])]
 | move x => simp only [Jy, h x (by simp [Op.operands])]
 | assign x => simp only [Jy, h x (by simp [Op.operands])]
 | nilCheck x => simp only [Jy, h x (by simp [Op.operands])]
 | unOp op t x => simp only [Jy, h x (by simp [Op.operands])]
 | convert s d x => simp only [Jy, h x (by simp [Op.operands])]
 | makeInterface t x => simp only [Jy, h x (by simp [Op.operands])]
 | fieldAddr t x f => simp only [Jy, h x (by simp [Op.operands])]
 | field t x f => simp only [Jy, h x (by simp [Op.operands])]
 | extract x i => simp only [Jy, h x (by simp [Op.operands])]
 | typeAssert x xt u ok => simp only [Jy, h x (by simp [Op.operands])]
 | lookup t x k ok => simp only [Jy, h x (by simp [Op.operands]), h k (by simp [Op.operands])]
 | load t x => simp only [Jy, h x (by simp [Op.operands])]
 | _ => rfl
theorem JnM {P : Program} {fr : Fr} {st st' : St} {o : Op} (h : Js P o = .p) : Jy P fr st o = Jy P fr st' o := by
 cases o with
 | makeFunc f a c => cases f <;> rfl
 | slice t x lo hi mx => cases mx <;> cases hi <;> rfl
 | call c =>
  obtain ⟨callee, args, ts⟩ := c
  cases callee with
  | builtin b => cases b <;> first | rfl | (simp [Js] at h; done)
  | _ => simp [Js] at h
 | load t x => simp [Js] at h
 | lookup t x k ok => simp [Js] at h
 | convert s d x =>
  simp only [Js] at h
  split at h <;> simp at h
 | _ => rfl
theorem Jhp {P : Program} {fr fr' : Fr} {o : Op} (h : ∀ x ∈ o.operands.toList, ev fr x = ev fr' x) : Jv P fr o = Jv P fr' o := by
 cases o with
 | box t x => simp only [Jv, h x (by simp [Op.operands])]
 | buildSlice t n ps =>
  have := Jcc (fr := fr) (fr' := fr') ps.toList (fun x hx => h x.2 (by simp [Op.operands]; exact ⟨x.1, by simpa using hx⟩))
  simp only [Jv, this]
 | _ => rfl
theorem Jjq {P : Program} {fr fr' : Fr} {st : St} {o : Op} (h : ∀ x ∈ o.operands.toList, ev fr x = ev fr' x) : Qe P fr st o = Qe P fr' st o := by
 cases o with
 | store t a x => simp only [Qe, h a (by simp [Op.operands]), h x (by simp [Op.operands])]
 | makeSlice t l c => simp only [Qe, h l (by simp [Op.operands]), h c (by simp [Op.operands])]
 | insert t m k x => simp only [Qe, h m (by simp [Op.operands]), h k (by simp [Op.operands]), h x (by simp [Op.operands])]
 | mapUpdate t m k x => simp only [Qe, h m (by simp [Op.operands]), h k (by simp [Op.operands]), h x (by simp [Op.operands])]
 | range t x => simp only [Qe, h x (by simp [Op.operands])]
 | next x b => simp only [Qe, h x (by simp [Op.operands])]
 | convert s d x => simp only [Qe, h x (by simp [Op.operands])]
 | makeMap t r => cases r <;> rfl
 | call c =>
  obtain ⟨callee, args, ts⟩ := c
  have h1 : ∀ x ∈ args.toList, ev fr x = ev fr' x := fun x hx => h x (by simp only [Op.operands, Call.operands, Array.toList_append, List.mem_append]; exact .inr hx)
  cases callee with
  | builtin b =>
   cases b <;> simp only [Qe]
   case append =>
    split
    ·rename_i x y t u hx ht
     rw [h1 x (by rw [hx]; simp), h1 y (by rw [hx]; simp)]
    ·rfl
   case copy =>
    split
    ·rename_i x y t u hx ht
     rw [h1 x (by rw [hx]; simp), h1 y (by rw [hx]; simp)]
    ·rfl
   case unsafeString =>
    split
    ·rename_i x y t u hx ht
     rw [h1 x (by rw [hx]; simp), h1 y (by rw [hx]; simp)]
    ·rfl
  | _ => rfl
 | _ => rfl
theorem Jjr {P : Program} {ih : CallF} {fr fr' : Fr} {st : St} {o : Op} (hgl : fr.gl = fr'.gl) (h : ∀ x ∈ o.operands.toList, ev fr x = ev fr' x) : J6 P ih fr st o = J6 P ih fr' st o := by
 have ha := Jjq (P := P) (st := st) h
 cases o with
 | panic x => simp only [J6, h x (by simp [Op.operands])]
 | call c =>
  obtain ⟨callee, args, ts⟩ := c
  have h1 : ∀ x ∈ args.toList, ev fr x = ev fr' x := fun x hx => h x (by simp only [Op.operands, Call.operands, Array.toList_append, List.mem_append]; exact .inr hx)
  have h2 := Jco (fr := fr) (fr' := fr') args.toList h1
  cases callee with
  | builtin b => simp only [J6, ha]
  | value f =>
   have h3 := h f (by simp [Op.operands, Call.operands])
   simp only [J6, h2, h3, hgl]
  | invoke r m =>
   have h3 := h r (by simp [Op.operands, Call.operands])
   simp only [J6, h2, h3, hgl]
 | _ => simp only [J6, ha]
theorem Jgg {ops : Array Oper} {fr fr' : Fr} {o : Oper} (h : ∀ t ∈ looks ops o, Fr.at fr t = Fr.at fr' t) : Jj ops fr o = Jj ops fr' o := by
 unfold Jj
 cases hg : o.guard with
 | none => rfl
 | some p =>
  obtain ⟨j, want⟩ := p
  simp only
  cases hj : ops[j]? with
  | none => rfl
  | some q =>
   simp only
   cases hd : q.dst with
   | none => rfl
   | some d =>
    simp only
    rw [h d (by simp [looks, hg, hj, hd])]
theorem Jd4 {ops : Array Oper} {fr fr' : Fr} {o : Oper} (hgl : fr.gl = fr'.gl) (h : ∀ t ∈ looks ops o, Fr.at fr t = Fr.at fr' t) : ∀ x ∈ o.op.operands.toList, ev fr x = ev fr' x := by
 intro x hx
 refine JmI hgl fun t ht => ?_
 subst ht
 exact h t (by simp only [looks, List.mem_append, List.mem_filterMap]; exact .inl ⟨_, hx, rfl⟩)
mutual
theorem JdJ : ∀ (d : Nat) (a b : V), veq d a b = true → a = b
 | 0, _, _, h => by simp [veq] at h
 | d + 1, a, b, h => by
  cases a <;> cases b <;> simp only [veq, Bool.and_eq_true, beq_iff_eq, decide_eq_true_eq, Bool.false_eq_true] at h <;> try (first | rfl | exact h.elim)
  case bool.bool => rw [h]
  case int.int => rw [h.1, h.2]
  case str.str x y => cases x; cases y; simp only [Nat.beq_eq] at h; rw [h.1, h.2]
  case sl.sl => rw [h.1.1, h.1.2, Jb1 d _ _ h.2]
  case ms.ms => rw [h.1.1.1.1, h.1.1.1.2, h.1.1.2, h.1.2, h.2]
  case yld.yld => rw [h]
  case mapp.mapp => rw [h]
  case cp.cp => rw [Jb1 d _ _ h]
  case ptr.ptr => rw [h.1, h.2]
  case agg.agg => rw [Jb1 d _ _ h]
  case tup.tup => rw [Jb1 d _ _ h]
  case fn.fn => rw [h.1.1, Jb1 d _ _ h.1.2, Jb1 d _ _ h.2]
  case iface.iface => rw [h.1, JdJ d _ _ h.2]
theorem Jb1 : ∀ (d : Nat) (a b : List V), Jdm d a b = true → a = b
 | 0, _, _, h => by simp [Jdm] at h
 | d + 1, [], [], h => rfl
 | d + 1, [], _ :: _, h => by simp [Jdm] at h
 | d + 1, _ :: _, [], h => by simp [Jdm] at h
 | d + 1, a :: x, b :: y, h => by
  simp only [Jdm, Bool.and_eq_true] at h
  rw [JdJ d a b h.1, Jb1 d x y h.2]
end
def bit (b : List Nat) (i j : Nat) : Prop := (b.getD i 0).testBit j = true
structure Pl (P : Program) (ops : Array Oper) (b l : List Nat) : Prop where
 nodup : ∀ (p q i : Nat), l[p]? = some i → l[q]? = some i → p = q
 lt : ∀ (p i : Nat), l[p]? = some i → i < ops.size
 all : ∀ (i : Nat), i < ops.size → ∃ p : Nat, l[p]? = some i
 dst1 : ∀ (i j : Nat) (x y : Oper) (d : Tmp), i ≠ j → ops[i]? = some x → ops[j]? = some y → x.dst = some d → y.dst ≠ some d
 slot : ∀ (i j : Nat) (x y : Oper) (d : Tmp), i ≠ j → ops[i]? = some x → ops[j]? = some y → x.dst = some d → d ∈ looks ops y → bit b j i ∨ bit b i j
 pre : ∀ (p i : Nat) (o : Oper) (e : Edge), l[p]? = some i → ops[i]? = some o → e ∈ o.after.toList → Region.binds .any e = true → ∃ q : Nat, q < p ∧ l[q]? = some e.on
 anc : ∀ (p i : Nat) (o : Oper) (j : Nat), l[p]? = some i → ops[i]? = some o → bit b i j → (∃ q : Nat, q < p ∧ l[q]? = some j) ∧ ∃ e ∈ o.after.toList, Region.binds .any e = true ∧ (e.on = j ∨ bit b e.on j)
 act : ∀ (p i q k : Nat), l[p]? = some i → isE P ops i = true → q < p → l[q]? = some k → bit b i k
theorem JeQ : ∀ (l : List Nat), Jg9 l = true → ∀ (p q i : Nat), l[p]? = some i → l[q]? = some i → p = q
 | [], _, p, q, i, h, _ => by simp at h
 | x :: xs, hn, p, q, i, h1, h2 => by
  simp only [Jg9, Bool.and_eq_true, Bool.not_eq_true', List.contains_eq_mem, decide_eq_false_iff_not] at hn
  cases p with
  | zero =>
   cases q with
   | zero => rfl
   | succ q =>
    simp at h1 h2
    subst h1
    exact absurd (List.mem_of_getElem? h2) hn.1
  | succ p =>
   cases q with
   | zero =>
    simp at h1 h2
    subst h2
    exact absurd (List.mem_of_getElem? h1) hn.1
   | succ q =>
    simp at h1 h2
    rw [JeQ xs hn.2 p q i h1 h2]
theorem Jf1 {P : Program} {ops : Array Oper} {b : List Nat} {n : Nat} : ∀ (l pre : List Nat), Jj3 P ops b n pre l = true → ∀ (p i : Nat), l[p]? = some i →
  ∃ o, ops[i]? = some o ∧ (∀ e ∈ o.after.toList, Region.binds .any e = true → e.on ∈ pre ∨ ∃ q : Nat, q < p ∧ l[q]? = some e.on) ∧
   (∀ j, j < n → bit b i j → (j ∈ pre ∨ ∃ q : Nat, q < p ∧ l[q]? = some j) ∧ ∃ e ∈ o.after.toList, Region.binds .any e = true ∧ (e.on = j ∨ bit b e.on j)) ∧
   (isE P ops i = true → ∀ k, (k ∈ pre ∨ ∃ q : Nat, q < p ∧ l[q]? = some k) → bit b i k)
 | [], pre, _, p, i, h => by simp at h
 | x :: xs, pre, hr, p, i, h => by
  simp only [Jj3, Bool.and_eq_true] at hr
  obtain ⟨h0, h1⟩ := hr
  cases p with
  | zero =>
   simp at h
   subst h
   split at h0
   ·simp at h0
   ·rename_i o ho
    simp only [Bool.and_eq_true, List.all_eq_true, Bool.or_eq_true, Bool.not_eq_true', List.contains_eq_mem, decide_eq_true_eq, List.any_eq_true, beq_iff_eq, List.mem_range] at h0
    obtain ⟨⟨a1, a2⟩, a3⟩ := h0
    refine ⟨o, ho, fun e he hb => ?_, fun j hj hb => ?_, fun hE k hk => ?_⟩
    ·rcases a1 e he with h | h
     ·rw [hb] at h; simp at h
     ·exact .inl h
    ·rcases a2 j hj with h | ⟨h, e, he, hbe, h2⟩
     ·unfold bit at hb; rw [hb] at h; simp at h
     ·exact ⟨.inl h, e, he, hbe, h2⟩
    ·rcases a3 with h | h
     ·rw [hE] at h; simp at h
     ·rcases hk with hk | ⟨q, hq, _⟩
      ·exact h k hk
      ·omega
  | succ p =>
   simp at h
   obtain ⟨o, ho, b1, b2, b3⟩ := Jf1 xs (x :: pre) h1 p i h
   have conv : ∀ k, (k ∈ x :: pre ∨ ∃ q : Nat, q < p ∧ xs[q]? = some k) ↔ (k ∈ pre ∨ ∃ q : Nat, q < p + 1 ∧ (x :: xs)[q]? = some k) := by
    intro k
    constructor
    ·rintro (h | ⟨q, hq, hk⟩)
     ·rcases List.mem_cons.1 h with rfl | h
      ·exact .inr ⟨0, by omega, rfl⟩
      ·exact .inl h
     ·exact .inr ⟨q + 1, by omega, by simpa using hk⟩
    ·rintro (h | ⟨q, hq, hk⟩)
     ·exact .inl (List.mem_cons_of_mem _ h)
     ·cases q with
      | zero => simp at hk; exact .inl (by rw [hk]; exact List.mem_cons_self)
      | succ q => exact .inr ⟨q, by omega, by simpa using hk⟩
   exact ⟨o, ho, fun e he hb => (conv _).1 (b1 e he hb), fun j hj hb => ⟨(conv _).1 (b2 j hj hb).1, (b2 j hj hb).2⟩, fun hE k hk => b3 hE k ((conv k).2 hk)⟩
theorem Jis {P : Program} {ops : Array Oper} {b l : List Nat} (h : Ja7 P ops b l = true) : Pl P ops b l := by
 simp only [Ja7, Bool.and_eq_true] at h
 obtain ⟨⟨⟨⟨⟨⟨h1, h2⟩, h3⟩, h4⟩, h5⟩, h6⟩, _⟩ := h
 have hrow := Jf1 l [] h6
 have hbits : ∀ i j, bit b i j → j < ops.size := by
  intro i j hb
  unfold bit at hb
  rcases Nat.lt_or_ge j ops.size with hj | hj
  ·exact hj
  ·exfalso
   have hlt : b.getD i 0 < 2 ^ ops.size := by
    cases hbi : b[i]? with
    | none => simp [hbi]; exact Nat.two_pow_pos _
    | some m =>
     simp only [List.getD_eq_getElem?_getD, hbi, Option.getD_some]
     have := List.all_eq_true.1 h4 m (List.mem_of_getElem? hbi)
     simpa [Nat.blt_eq] using this
   rw [Nat.testBit_lt_two_pow (Nat.lt_of_lt_of_le hlt (Nat.pow_le_pow_right (by omega) hj))] at hb
   simp at hb
 refine ⟨JeQ l h1, fun p i hp => ?_, fun i hi => ?_, fun i j x y d hij hx hy hd => ?_, fun i j x y d hij hx hy hd hl => ?_, fun p i o e hp ho he hb => ?_, fun p i o j hp ho hb => ?_, fun p i q k hp hE hq hk => ?_⟩
 ·have := List.all_eq_true.1 h2 i (List.mem_of_getElem? hp)
  simpa [Nat.blt_eq] using this
 ·have := List.all_eq_true.1 h3 i (List.mem_range.2 hi)
  simp only [List.contains_eq_mem, decide_eq_true_eq] at this
  obtain ⟨p, hp, hpe⟩ := List.getElem_of_mem this
  exact ⟨p, by rw [List.getElem?_eq_getElem hp, hpe]⟩
 ·have hi : i < ops.size := (Array.getElem?_eq_some_iff.1 hx).1
  have hj : j < ops.size := (Array.getElem?_eq_some_iff.1 hy).1
  have := List.all_eq_true.1 h5 i (List.mem_range.2 hi)
  simp only [hx, hd] at this
  have := List.all_eq_true.1 this j (List.mem_range.2 hj)
  simp only [hy, Bool.or_eq_true, beq_iff_eq, Bool.and_eq_true, bne_iff_ne, ne_eq] at this
  rcases this with h | h
  ·exact absurd h hij
  ·exact h.1
 ·have hi : i < ops.size := (Array.getElem?_eq_some_iff.1 hx).1
  have hj : j < ops.size := (Array.getElem?_eq_some_iff.1 hy).1
  have := List.all_eq_true.1 h5 i (List.mem_range.2 hi)
  simp only [hx, hd] at this
  have := List.all_eq_true.1 this j (List.mem_range.2 hj)
  simp only [hy, Bool.or_eq_true, beq_iff_eq, Bool.and_eq_true, bne_iff_ne, ne_eq, Bool.not_eq_true', List.contains_eq_mem, decide_eq_false_iff_not] at this
  rcases this with h | ⟨_, (h | h) | h⟩
  ·exact absurd h hij
  ·exact absurd hl h
  ·exact .inl h
  ·exact .inr h
 ·obtain ⟨o', ho', b1, _, _⟩ := hrow p i hp
  have : o' = o := by rw [ho] at ho'; simpa using ho'.symm
  subst this
  simpa using b1 e he hb
 ·obtain ⟨o', ho', _, b2, _⟩ := hrow p i hp
  have : o' = o := by rw [ho] at ho'; simpa using ho'.symm
  subst this
  obtain ⟨c1, c2⟩ := b2 j (hbits i j hb) hb
  exact ⟨by simpa using c1, c2⟩
 ·obtain ⟨o', ho', _, _, b3⟩ := hrow p i hp
  exact b3 hE k (.inr ⟨q, hq, hk⟩)
theorem JeR {P : Program} {ih : CallF} {ops : Array Oper} {b : List Nat} {c0 : Nat} : ∀ (l : List Nat) (d0 d : Drw), J9 P ih ops b c0 l d0 = some d →
  ∃ D : Nat → Drw, D 0 = d0 ∧ D l.length = d ∧ ∀ (p i : Nat), l[p]? = some i → Qk P ih ops b c0 i (D p) = some (D (p + 1))
 | [], d0, d, h => by
  simp only [J9, Option.some.injEq] at h
  exact ⟨fun _ => d0, rfl, h, fun p i hp => by simp at hp⟩
 | x :: xs, d0, d, h => by
  simp only [J9] at h
  split at h
  ·rename_i d1 h1
   obtain ⟨D, e1, e2, e3⟩ := JeR xs d1 d h
   refine ⟨fun p => match p with | 0 => d0 | p + 1 => D p, rfl, e2, fun p i hp => ?_⟩
   cases p with
   | zero => simp at hp; subst hp; show Qk P ih ops b c0 x d0 = some (D 0); rw [e1]; exact h1
   | succ p => simp at hp; exact e3 p i hp
  ·simp at h
end Go.Vm
