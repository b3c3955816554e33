/- The fast evaluator: an operation looks at its own slots alone; it calls at most once. -/
import Derived.Test.YtidnmhdlfofinaaGreatDoorVmFx4
namespace Go.Vm
open Go
def Ev (φ : Nat → Prop) : Prop := ∃ N, ∀ m, N ≤ m → φ m
theorem Ev.all {φ : Nat → Prop} (h : ∀ m, φ m) : Ev φ := ⟨0, fun m _ => h m⟩
theorem Ev.mono {φ ψ : Nat → Prop} (h : Ev φ) (k : ∀ m, φ m → ψ m) : Ev ψ := by obtain ⟨N, h⟩ := h; exact ⟨N, fun m hm => k m (h m hm)⟩
theorem Ev.and {φ ψ : Nat → Prop} (h : Ev φ) (k : Ev ψ) : Ev fun m => φ m ∧ ψ m := by
  obtain ⟨N, h⟩ := h; obtain ⟨M, k⟩ := k
  exact ⟨max N M, fun m hm => ⟨h m (Nat.le_trans (Nat.le_max_left _ _) hm), k m (Nat.le_trans (Nat.le_max_right _ _) hm)⟩⟩
theorem Ev.step {φ : Nat → Prop} (h : Ev fun m => φ (m + 1)) : Ev φ := by
  obtain ⟨N, h⟩ := h
  refine ⟨N + 1, fun m hm => ?_⟩
  obtain ⟨k, rfl⟩ : ∃ k, m = k + 1 := ⟨m - 1, by omega⟩
  exact h k (by omega)
def IHok [Memo] (P : Program) (ih : Ih) : Prop := ∀ t st, (∃ w, ih t st = .fail w) ∨ Ev fun m => X P m t st = ih t st
theorem ihCall_ok [Memo] {P : Program} {ih : Ih} (h : IHok P ih) (gl : Gl) (c : Cl) (args : List V) (st : St) :
    (∃ w, ihCall ih gl c args st = .fail w) ∨ Ev fun m => ihCall (X P m) gl c args st = ihCall ih gl c args st := by
  cases c with
  | f f =>
    rcases h (.call gl f args) st with ⟨w, hw⟩ | he
    · exact .inl ⟨w, by simp [ihCall, hw]⟩
    · exact .inr (he.mono fun m hm => by simp [ihCall, hm])
  | y id =>
    rcases h (.round gl id args) st with ⟨w, hw⟩ | he
    · exact .inl ⟨w, by simp [ihCall, hw]⟩
    · exact .inr (he.mono fun m hm => by simp [ihCall, hm])
theorem vcall_form (P : Program) (gl : Gl) (f : Nat) (args : List V) (st : St) :
    (∃ r, ∀ ih, vcall P ih gl f args st = r) ∨ ∀ ih, vcall P ih gl f args st = ih gl (.f f) args st := by
  unfold vcall
  split
  · exact .inl ⟨_, fun _ => rfl⟩
  · split
    · exact .inl ⟨_, fun _ => rfl⟩
    · split
      · exact .inr fun _ => rfl
      · exact .inl ⟨_, fun _ => rfl⟩
theorem veff_form (P : Program) (fr : Fr) (st : St) (o : Op) :
    (∃ r, ∀ ih, veff P ih fr st o = r) ∨ ∃ c args, ∀ ih, veff P ih fr st o = ih fr.gl c args st := by
  unfold veff
  split
  · exact .inl ⟨_, fun _ => rfl⟩
  · split
    · exact (vcall_form P fr.gl _ _ st).imp id fun h => ⟨_, _, h⟩
    · exact .inr ⟨_, _, fun _ => rfl⟩
    · exact .inl ⟨_, fun _ => rfl⟩
  · split
    · split
      · exact (vcall_form P fr.gl _ _ st).imp id fun h => ⟨_, _, h⟩
      · exact .inl ⟨_, fun _ => rfl⟩
    · exact .inl ⟨_, fun _ => rfl⟩
  · exact .inl ⟨_, fun _ => rfl⟩
theorem vop_form (P : Program) (fr : Fr) (st : St) (o : Op) :
    (∃ r, ∀ ih, vop P ih fr st o = r) ∨ ∃ c args, ∀ ih, vop P ih fr st o = ih fr.gl c args st := by
  unfold vop
  split
  · exact .inl ⟨_, fun _ => rfl⟩
  · exact .inl ⟨_, fun _ => rfl⟩
  · exact .inl ⟨_, fun _ => rfl⟩
  · exact veff_form P fr st o
theorem vop_ev [Memo] {P : Program} {ih : Ih} (h : IHok P ih) (fr : Fr) (st : St) (o : Op) :
    (∃ w, vop P (ihCall ih) fr st o = .fail w) ∨ Ev fun m => vop P (ihCall (X P m)) fr st o = vop P (ihCall ih) fr st o := by
  rcases vop_form P fr st o with ⟨r, hr⟩ | ⟨c, args, hr⟩
  · exact .inr (.all fun m => by rw [hr, hr])
  · rw [hr]
    rcases ihCall_ok h fr.gl c args st with hf | he
    · exact .inl hf
    · exact .inr (he.mono fun m hm => by rw [hr, hm])
theorem veff_ev [Memo] {P : Program} {ih : Ih} (h : IHok P ih) (fr : Fr) (st : St) (o : Op) :
    (∃ w, veff P (ihCall ih) fr st o = .fail w) ∨ Ev fun m => veff P (ihCall (X P m)) fr st o = veff P (ihCall ih) fr st o := by
  rcases veff_form P fr st o with ⟨r, hr⟩ | ⟨c, args, hr⟩
  · exact .inr (.all fun m => by rw [hr, hr])
  · rw [hr]
    rcases ihCall_ok h fr.gl c args st with hf | he
    · exact .inl hf
    · exact .inr (he.mono fun m hm => by rw [hr, hm])
theorem evs_cong {fr fr' : Fr} : ∀ {l : List Operand}, (∀ x ∈ l, ev fr' x = ev fr x) → evs fr' l = evs fr l
  | [], _ => rfl
  | x :: r, h => by
    have h1 := h x (List.mem_cons_self ..)
    have h2 := evs_cong (l := r) fun y hy => h y (List.mem_cons_of_mem _ hy)
    simp only [evs] at h2 ⊢
    simp only [traverse, h1, h2]
theorem evParts_cong {fr fr' : Fr} : ∀ {l : List (Nat × Operand)}, (∀ x ∈ l.map (·.2), ev fr' x = ev fr x) → evParts fr' l = evParts fr l
  | [], _ => rfl
  | (i, x) :: r, h => by
    have h1 := h x (by simp)
    have h2 := evParts_cong (l := r) fun y hy => h y (by simp only [List.map_cons, List.mem_cons]; exact .inr hy)
    simp only [evParts, h1, h2]
theorem evOpt_cong {fr fr' : Fr} {x : Option Operand} (h : ∀ y, x = some y → ev fr' y = ev fr y) : evOpt fr' x = evOpt fr x := by
  cases x with
  | none => rfl
  | some y => simp only [evOpt, h y rfl]
theorem vpure_cong {P : Program} {fr fr' : Fr} {st : St} {o : Op} (h : ∀ x ∈ o.operands.toList, ev fr' x = ev fr x) : vpure P fr' st o = vpure P fr st o := by
  cases o with
  | build t parts =>
    simp only [Op.operands] at h
    simp only [vpure, evParts_cong h]
  | makeFunc fn a c =>
    simp only [Op.operands, Array.toList_append, List.mem_append] at h
    cases fn with
    | func f => simp only [vpure, evs_cong fun x hx => h x (.inl hx), evs_cong fun x hx => h x (.inr hx)]
    | _ => rfl
  | slice t x lo hi mx =>
    have hx : ev fr' x = ev fr x := h x (by simp [Op.operands])
    have hlo : evOpt fr' lo = evOpt fr lo := evOpt_cong fun y hy => h y (by subst hy; simp [Op.operands])
    have hhi : evOpt fr' hi = evOpt fr hi := evOpt_cong fun y hy => h y (by subst hy; simp [Op.operands])
    cases mx with
    | none => simp only [vpure, hx, hlo, hhi]
    | some m =>
      have hm : ev fr' m = ev fr m := h m (by simp [Op.operands])
      cases hi with
      | none => rfl
      | some y =>
        have hy : ev fr' y = ev fr y := h y (by simp [Op.operands])
        simp only [vpure, hx, hlo, hy, hm]
  | call c =>
    obtain ⟨callee, args, argTypes⟩ := c
    cases callee with
    | builtin b =>
      have ha : ∀ x ∈ args.toList, ev fr' x = ev fr x := fun x hx => h x (by simpa [Op.operands, Call.operands] using hx)
      have hs := evs_cong ha
      cases b <;> first | rfl | (simp only [vpure, hs]; done) | skip
      all_goals
        simp only [vpure]
        generalize args.toList = l at ha ⊢
        try generalize argTypes.toList = ts
        match l, ha with
        | [x], ha =>
          have h1 := ha x (List.mem_cons_self ..)
          first
            | (simp only [h1]; done)
            | (cases ts <;> simp only [h1])
        | [], _ => rfl
        | _ :: _ :: _, _ => rfl
    | _ => rfl
  | _ =>
    simp only [Op.operands, List.mem_cons, List.not_mem_nil, or_false, forall_eq_or_imp, forall_eq] at h
    simp only [vpure, h]
theorem valloc_cong {P : Program} {fr fr' : Fr} {o : Op} (h : ∀ x ∈ o.operands.toList, ev fr' x = ev fr x) : valloc P fr' o = valloc P fr o := by
  cases o with
  | buildSlice t len parts =>
    simp only [Op.operands] at h
    simp only [valloc, evParts_cong h]
  | box t x => simp only [valloc, h x (by simp [Op.operands])]
  | _ => rfl
theorem vact_cong {P : Program} {fr fr' : Fr} {st : St} {o : Op} (h : ∀ x ∈ o.operands.toList, ev fr' x = ev fr x) : vact P fr' st o = vact P fr st o := by
  cases o with
  | makeMap t r => cases r <;> rfl
  | call c =>
    obtain ⟨callee, args, argTypes⟩ := c
    cases callee with
    | builtin b =>
      have ha : ∀ x ∈ args.toList, ev fr' x = ev fr x := fun x hx => h x (by simpa [Op.operands, Call.operands] using hx)
      cases b <;> first | rfl | skip
      all_goals
        simp only [vact]
        generalize args.toList = l at ha ⊢
        generalize argTypes.toList = ts
        match l, ha with
        | [x, y], ha =>
          have h1 := ha x (List.mem_cons_self ..)
          have h2 := ha y (List.mem_cons_of_mem _ (List.mem_cons_self ..))
          match ts with
          | [] => rfl
          | [_] => rfl
          | [_, _] => simp only [h1, h2]
          | _ :: _ :: _ :: _ => rfl
        | [], _ => rfl
        | [_], _ => rfl
        | _ :: _ :: _ :: _, _ => rfl
    | _ => rfl
  | _ =>
    simp only [Op.operands, List.mem_cons, List.not_mem_nil, or_false, forall_eq_or_imp, forall_eq] at h
    simp only [vact, h]
theorem veff_cong {P : Program} {ih : CallF} {fr fr' : Fr} {st : St} {o : Op} (h : ∀ x ∈ o.operands.toList, ev fr' x = ev fr x) (hg : fr'.gl = fr.gl) : veff P ih fr' st o = veff P ih fr st o := by
  have hv := vact_cong (P := P) (st := st) h
  cases o with
  | panic x => simp only [veff, h x (by simp [Op.operands])]
  | call c =>
    obtain ⟨callee, args, argTypes⟩ := c
    have ha : ∀ x ∈ args.toList, ev fr' x = ev fr x := fun x hx => h x (by simp only [Op.operands, Call.operands, Array.toList_append, List.mem_append]; exact .inr hx)
    have hs := evs_cong ha
    cases callee with
    | builtin b => simp only [veff, hv]
    | value f =>
      have hf : ev fr' f = ev fr f := h f (by simp [Op.operands, Call.operands])
      simp only [veff, hf, hs, hg]
    | invoke r n =>
      have hf : ev fr' r = ev fr r := h r (by simp [Op.operands, Call.operands])
      simp only [veff, hf, hs, hg]
  | _ => simp only [veff, hv]
theorem opTold_congr {fr fr' : Fr} {o : Op} (h : ∀ x ∈ o.operands.toList, ev fr' x = ev fr x) : opTold fr' o = opTold fr o := by
  unfold opTold
  rw [List.map_congr_left fun x hx => by rw [h x hx]]
theorem vop_congr {P : Program} {ih : CallF} {fr fr' : Fr} {st : St} {o : Op} (h : ∀ x ∈ o.operands.toList, ev fr' x = ev fr x) (hg : fr'.gl = fr.gl) : vop P ih fr' st o = vop P ih fr st o := by
  simp only [vop, vpure_cong h, valloc_cong h, veff_cong h hg, opTold_congr h]
end Go.Vm
