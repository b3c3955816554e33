/- The law SyntaxMay holds, its second form: its call returns true, whatever two commands it is handed, of bulk at most 1048576 together, on every tape; nothing that was there is changed. -/
import Derived.Test.YtebpfgkajjljjaaRows
import Derived.WalkKit
import Derived.ProofKit
import Derived.OpenShut
import Derived.JoinedCond
import Derived.Carry
import Derived.ChangeMaps5
import Derived.Test.YtebpfgkajjljjaaSy9
namespace Go.Proofs.Ytebpfgkajjljjaa.syntaxMayUpto
open Go Go.ChangeShapes Go.WideShapes Go.ChangeAt Go.RowKit Go.ChangeMaps

theorem own : ownKnob Try.prog.godebug = none := by kernel_rfl
theorem mixed : Try.prog.follows .mixedOrders = true := by kernel_rfl

/-! ### The walk: by the evaluator's equations. -/
theorem walk (W : World) (v1 v2 : Value) (c d : Vm.Cw) (hc : c.ok) (hcs : c.small) (hd : d.ok) (hds : d.small) (h1 : Vm.R (Vm.worldGh W) (.agg c.cells) v1) (h2 : Vm.R (Vm.worldGh W) (.agg d.cells) v2) :
    Calls Try.prog 3 ⟨[v1, v2]⟩ W fun e w' => e = .returned (.bool true) ∧ Below W.heap.size W w' := by
  letI : Vm.Memo := Vm.syMemo
  letI : Vm.NY := Vm.sy_ny
  obtain ⟨v, st', hW, rfl, _⟩ := Vm.law_ok .nil Vm.sy_hits c d hc hcs hd hds ⟨0, .nil⟩
  obtain ⟨N, hN⟩ := Vm.W_fuel hW rfl
  have hs := Vm.sound mixed W.heap.size (Vm.memo_ok Vm.sy_rules _) N .nil (.f 3) [.agg c.cells, .agg d.cells] ⟨0, .nil⟩
  have hih : Vm.ihCall (Vm.X Try.prog N) .nil (.f 3) [.agg c.cells, .agg d.cells] ⟨0, .nil⟩ = .val (.bool true) st' := by simp [Vm.ihCall, hN]
  rw [hih] at hs
  refine (hs _ W _ ⟨Vm.GlV.nil _, rfl⟩ (Vm.Inv.empty W) (.cons _ _ _ _ h1 (.cons _ _ _ _ h2 .nil))).mono ?_
  rintro e w' ⟨g', x, rfl, h1, _, h3⟩
  cases h1
  exact ⟨rfl, h3.below⟩

abbrev Ts : List TypeId := [25, 5, 3, 9, 22, 23, 31, 29, 33, 4]
theorem ts_ok : Vm.okT Try.prog Ts = true := by kernel_rfl

/-- an argument is a command -/
theorem arg {H : Type} {enc : TypeId × Value → H} {W : World} {base : Nat} {v : Value} {d : DataW H} {p : List MemPlace} (hv : Value.okWide Try.prog W .any base 25 v) (h : DataW.Trod enc Try.prog W 0 (fun _ => true) true 25 v d p)
    (hb : Vm.bulk d ≤ 1048576) : ∃ c : Vm.Cw, c.ok ∧ c.small ∧ Vm.R (Vm.worldGh W) (.agg c.cells) v := by
  obtain ⟨cs, rfl, _⟩ := okWide_struct Try.underlying25 hv
  obtain ⟨n, h⟩ := h
  obtain ⟨vs, h1, h2, h3⟩ := Vm.shp_of_trod2 ts_ok n 25 _ _ (by decide) h
  obtain ⟨c, rfl, hok, hsm⟩ := Vm.cmd_of n h2 (Nat.le_trans h3 hb)
  exact ⟨c, hok, hsm, .agg _ _ h1⟩

theorem contract (H : Type) (enc : TypeId × Value → H) (W : World) (base : Nat) (args : Array Value) (ds gs : List (DataW H)) (before : List MemPlace)
    (hval0 : ∀ (j : Nat) t v, Try.f3.params[j]? = some t → args[j]? = some v → Value.okWide Try.prog W .any base t v)
    (hW : DataW.Whole enc Try.prog Try.f3.params.toList Rows.syntaxMaySpec.vars false W args.toList ds gs before) (hk : Rows.uptoSmall H (ds ++ gs) = true) :
    Calls Try.prog 3 args W fun e W' => ∃ v, e = .returned v ∧ Rows.syntaxMaySpec.post enc Try.prog Try.f3 false true false false W args v W' := by
  have hval : ∀ (j : Nat) t v, Try.f3.params[j]? = some t → args[j]? = some v → Value.okWide Try.prog W .any base t v := hval0
  have hW' := hW
  obtain ⟨p, q, hA0, hV, rfl, hfz, hnd⟩ := hW
  have hA : DataW.TrodAll enc Try.prog W 0 (fun _ => true) true Try.f3.params.toList args.toList ds p := hA0
  rw [Try.params3] at hA hval
  obtain ⟨v1, r1, d1, e1, p1, q1, ha1, rfl, rfl, t1, hA1⟩ := trodAll_cons hA
  obtain ⟨v2, r2, d2, e2, p2, q2, rfl, rfl, rfl, t2, hA2⟩ := trodAll_cons hA1
  obtain ⟨h5, rfl, rfl⟩ := trodAll_nil hA2
  subst h5
  obtain ⟨rfl, rfl⟩ := trodVars_none hV
  obtain ⟨args⟩ := args
  simp only at ha1
  subst ha1
  clear hA0 hval0 hA hA1 hA2
  have hbk : Vm.bulk d1 + (Vm.bulk d2 + 0) ≤ 1048576 := of_decide_eq_true hk
  obtain ⟨c, hc, hcs, x1⟩ := arg (hval 0 25 v1 rfl rfl) t1 (by omega)
  obtain ⟨d, hd, hds, x2⟩ := arg (hval 1 25 v2 rfl rfl) t2 (by omega)
  have hlt1 : ∀ x ∈ p1, x.block < W.heap.size := fun x hx => by simpa using hW'.lt x (by simp [hx])
  have hlt2 : ∀ x ∈ p2, x.block < W.heap.size := fun x hx => by simpa using hW'.lt x (by simp [hx])
  refine (walk W v1 v2 c d hc hcs hd hds x1 x2).mono fun e W' ⟨he, hg⟩ => ?_
  subst he
  have lo : laidOutB Try.prog = true := by kernel_rfl
  exact ⟨_, rfl, _, _, _, [], _, [], hW', (trodAll_cons_mk (shut_bool Try.underlying4 _) trodAll_mk0),
    trodAll_cons_mk (Below.trod lo (by kernel_rfl) (of_decide_eq_true (by kernel_rfl)) t1 hg hlt1) (trodAll_cons_mk (Below.trod lo (by kernel_rfl) (of_decide_eq_true (by kernel_rfl)) t2 hg hlt2) trodAll_mk0),
    rfl, hg.frame _, fun h => by cases h⟩

abbrev wit : Value := .agg #[.int .u8 0, .int .i64 0, .string ⟨#[]⟩, .slice none 0 0, .slice none 0 0]
abbrev witD {H : Type} : DataW H := .agg [.lit (.int .u8 0), .lit (.int .i64 0), .lit (.string []), .nil, .nil]

set_option maxRecDepth 100000 in
theorem lifted (os : Os) (started : os.Started) (H : Type) (enc : TypeId × Value → H) (F : Stop.Interp) :
    ReturnsInHanded {} Try.checked os 3 .any ((Rows.OpenSpec.upto Rows.syntaxMaySpec).pre6 enc Try.prog Try.f3 Rows.syntaxMayUptoRow.domain false) (((Rows.OpenSpec.upto Rows.syntaxMaySpec).at F).post enc Try.prog Try.f3 false true false false) := by
  refine returnsInHanded_of_cond (C := Try.checked) (s := Rows.OpenSpec.upto Rows.syntaxMaySpec) (k := Rows.uptoSmall) rfl own started (by kernel_rfl) Try.func3
    (OpenSpec.witness (enc := enc) (C := Try.checked) (s := Rows.OpenSpec.upto Rows.syntaxMaySpec) (k := Rows.uptoSmall) rfl false ⟨#[], #[wit, wit], []⟩ 8 (by kernel_rfl) (by kernel_rfl) (by kernel_rfl)
      (x := ([witD, witD], [], [])) (by kernel_rfl) rfl (by kernel_rfl)) ?_
  intro W base args ds gs before hval hW _ hk _
  exact contract H enc W base args ds gs before hval hW hk

theorem over : Rows.syntaxMayUptoRow.holds Try.pinned (Rows.OpenSpec.upto Rows.syntaxMaySpec) :=
  OpenClaim.holds_of_cond 3 Try.f3 rfl rfl rfl rfl rfl rfl rfl ⟨rfl, rfl, rfl, rfl, rfl⟩ rfl rfl rfl rfl rfl (by kernel_rfl) Try.func3 (by kernel_rfl)
    (of_decide_eq_true (by kernel_rfl)) (by unfold Func.isWrapper; first | (rw [if_pos (by decide +kernel)]; kernel_rfl) | (rw [if_neg (by decide +kernel)]; exact ⟨rfl, rfl⟩))
    (fun os started H enc _ F => lifted os started H enc F)

/-- ████ THE STATEMENT ████ -/
theorem proved : Rows.SyntaxMayUptoSaid :=
  over
end Go.Proofs.Ytebpfgkajjljjaa.syntaxMayUpto
