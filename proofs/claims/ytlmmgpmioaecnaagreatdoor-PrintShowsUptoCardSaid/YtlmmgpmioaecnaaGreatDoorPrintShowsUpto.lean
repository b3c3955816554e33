/- The law PrintShows holds, its second form, its tied card: its call returns true, whatever node and text it is handed, of bulk at most 1048576, on every tape, the listed package-level variables being as the program's text lays them; nothing that was there is changed. -/
import Derived.Test.YtlmmgpmioaecnaaGreatDoorRows
import Derived.WalkKit
import Derived.ProofKit
import Derived.OpenShut
import Derived.Carry
import Derived.ChangeMaps5
import Derived.LaidMore
import Derived.Lay
import Derived.Stop.Joined
import Derived.Deep.DeepHandedRow
import Derived.SevenTiedAt
import Derived.Test.YtlmmgpmioaecnaaGreatDoorTie
import Derived.Test.YtlmmgpmioaecnaaGreatDoorCards
import Derived.Test.YtlmmgpmioaecnaaGreatDoorSz12
namespace Go.Proofs.YtlmmgpmioaecnaaGreatDoor.printShowsUpto
open Go Go.ChangeShapes Go.WideShapes Go.ChangeAt Go.RowKit Go.ChangeMaps
theorem own : ownKnob Tryz.prog.godebug = none := by kernel_rfl
theorem mixed : Tryz.prog.follows .mixedOrders = true := by kernel_rfl
abbrev laid : List (String × DataW Unit) := [("touchstone/lex.operators", Rows.laid_touchstone_lex_operators), ("touchstone/syntax.closes", Rows.laid_touchstone_syntax_closes)]
abbrev use : List String := ["touchstone/lex.operators", "touchstone/syntax.closes"]
theorem Jpw : Vm.glOf Tryz.prog none laid use = some Vm.prGl := by kernel_rfl
theorem Jp1 : ∀ tp, (none : Option TypeId) = some tp → ∀ u, Tryz.prog.typeName? 3 u = some "*errors.errorString" → u = tp := fun tp h => by cases h
theorem Jpx (W : World) (v1 : Value) (c : Vm.Cw) (hok : c.ok) (hsm : c.small) (hms : Vm.msC c ≤ 1000000000000) (r1 : Vm.R (Vm.worldGh W) (.agg c.cells) v1) (hl : laidMetH Tryz.prog laid W) :
  Calls Tryz.prog 3 ⟨[v1]⟩ W fun e w' => e = .returned (.bool true) ∧ Below W.heap.size W w' := by
 letI : Vm.Memo := Vm.prMemo
 letI : Vm.NY := Vm.pr_ny
 letI : Vm.NO := Vm.pr_no
 letI : Vm.NA := Vm.pr_na
 rw [MakeChecks.laidMetH_plain _ _ _ (by kernel_rfl)] at hl
 have hg := Vm.GlV_of_laidMet Jp1 Jpw hl
 obtain ⟨k, a, nm, wv, ws, kv, kids⟩ := c
 obtain ⟨v, st', hW, rfl⟩ := Vm.law3 Vm.prGl Vm.pr_hits ⟨0, .nil⟩ k a nm wv ws kv kids hok hsm hms
 obtain ⟨N, hN⟩ := Vm.W_fuel hW rfl
 have hs := Vm.sound mixed W.heap.size (Vm.memo_ok Vm.pr_rules _) N Vm.prGl (.f 3) [.agg (Vm.Cw.cells (.mk k a nm wv ws kv kids))] ⟨0, .nil⟩
 have hih : Vm.ihCall (Vm.X Tryz.prog N) Vm.prGl (.f 3) [.agg (Vm.Cw.cells (.mk k a nm wv ws kv kids))] ⟨0, .nil⟩ = .val (.bool true) st' := by
  simp only [Vm.Cw.cells]
  simp [Vm.ihCall, hN]
 rw [hih] at hs
 refine (hs _ W _ ⟨hg, rfl⟩ (Vm.Inv.empty W) (.cons _ _ _ _ r1 .nil)).mono ?_
 rintro e w' ⟨g', c, rfl, h1, _, h3⟩
 cases h1
 exact ⟨rfl, h3.below⟩
abbrev Ts : List TypeId := [25, 5, 3, 9, 22, 23, 41, 39, 43, 4]
theorem Jpy : Vm.okT Tryz.prog Ts = true := by kernel_rfl
set_option maxRecDepth 100000 in
theorem arg {H : Type} {enc : TypeId × Value → H} {W : World} {base : Nat} {v : Value} {d : DataW H} {p : List MemPlace} (hv : Value.okWide Tryz.prog W .any base 25 v) (h : DataW.Trod enc Tryz.prog W 0 (fun _ => true) true 25 v d p)
  (hb : Vm.bulk d ≤ 1048576) : ∃ c : Vm.Cw, c.ok ∧ c.small ∧ Vm.msC c ≤ 1000000000000 ∧ Vm.R (Vm.worldGh W) (.agg c.cells) v := by
 obtain ⟨cs, rfl, _⟩ := okWide_struct Tryz.underlying25 hv
 obtain ⟨n, h⟩ := h
 obtain ⟨vs, h1, h2, h3⟩ := Vm.shp_of_trod2 Jpy n 25 _ _ (by decide) h
 have h4 : Vm.vtots vs ≤ Vm.bulk d := h3
 obtain ⟨c, rfl, hok, hsm⟩ := Vm.cmd_of n h2 (by omega)
 have := Vm.msC_v hok
 exact ⟨c, hok, hsm, by omega, .agg _ _ h1⟩
set_option maxRecDepth 100000 in
theorem Jm6 (H : Type) (enc : TypeId × Value → H) (W : World) (base : Nat) (args : Array Value) (ds gs : List (DataW H)) (before : List MemPlace)
  (hval0 : ∀ (j : Nat) t v, Tryz.f3.params[j]? = some t → args[j]? = some v → Value.okWide Tryz.prog W .any base t v)
  (hW : DataW.Whole enc Tryz.prog Tryz.f3.params.toList Rows.printShowsSpec.vars false W args.toList ds gs before) (hk : Rows.uptoSmall H (ds ++ gs) = true) (hL : laidMetH Tryz.prog laid W) :
  Calls Tryz.prog 3 args W fun e W' => ∃ v, e = .returned v ∧ Rows.printShowsSpec.post enc Tryz.prog Tryz.f3 false true false false W args v W' := by
 have hval : ∀ (j : Nat) t v, Tryz.f3.params[j]? = some t → args[j]? = some v → Value.okWide Tryz.prog W .any base t v := hval0
 have hW' := hW
 obtain ⟨p, q, hA0, hV, rfl, hfz, hnd⟩ := hW
 have hA : DataW.TrodAll enc Tryz.prog W 0 (fun _ => true) true Tryz.f3.params.toList args.toList ds p := hA0
 rw [Tryz.params3] at hA hval
 obtain ⟨v1, r1, d1, e1, p1, q1, ha1, rfl, rfl, t1, hA1⟩ := trodAll_cons hA
 obtain ⟨h5, rfl, rfl⟩ := trodAll_nil hA1
 subst h5
 obtain ⟨rfl, rfl⟩ := trodVars_none hV
 obtain ⟨args⟩ := args
 simp only at ha1
 subst ha1
 clear hA0 hval0 hA hA1
 have hbk : Vm.bulk d1 + 0 ≤ 1048576 := of_decide_eq_true hk
 obtain ⟨c, hok, hsm, hms, x1⟩ := arg (hval 0 25 v1 rfl rfl) t1 (by omega)
 have hlt1 : ∀ x ∈ p1, x.block < W.heap.size := fun x hx => by simpa using hW'.lt x (by simp [hx])
 refine (Jpx W v1 c hok hsm hms x1 hL).mono fun e W' ⟨he, hg⟩ => ?_
 subst he
 have lo : laidOutB Tryz.prog = true := by kernel_rfl
 exact ⟨_, rfl, _, _, _, [], _, [], hW', (trodAll_cons_mk (shut_bool Tryz.underlying4 _) trodAll_mk0),
  trodAll_cons_mk (Below.trod lo (by kernel_rfl) (of_decide_eq_true (by kernel_rfl)) t1 hg hlt1) trodAll_mk0,
  rfl, hg.frame _, fun h => by cases h⟩
abbrev wit : Value := .agg #[.int .u8 0, .int .i64 0, .string ⟨#[]⟩, .slice none 0 0, .slice none 0 0]
abbrev Jp2 {H : Type} : DataW H := .agg [.lit (.int .u8 0), .lit (.int .i64 0), .lit (.string []), .nil, .nil]
theorem Jpz (os : Os) {H : Type} (enc : TypeId × Value → H) : ∃ places, DataW.whole enc Tryz.prog ((World.laidAll Tryz.prog os laid).forCall (fun _ _ => 0) ⟨#[], #[wit], []⟩).memory Tryz.f3.params.toList Rows.printShowsSpec.vars false #[wit].toList 8 = some ([Jp2], [], places) :=
 ⟨[], by kernel_rfl⟩
set_option maxRecDepth 100000 in
theorem JoQ (os : Os) (started : os.Started) (H : Type) (enc : TypeId × Value → H) (F : Stop.Interp) :
  ReturnsInHanded {} Tryz.checked os 3 .any ((Rows.OpenSpec.upto Rows.printShowsSpec).preRow enc Tryz.prog Tryz.f3 Rows.printShowsUptoRow.domain false Rows.printShowsUptoRow.laid) (((Rows.OpenSpec.upto Rows.printShowsSpec).at F).post enc Tryz.prog Tryz.f3 false true false false) := by
 obtain ⟨places, hx⟩ := Jpz os enc
 refine returnsInHanded_of_row (C := Tryz.checked) (s := Rows.OpenSpec.upto Rows.printShowsSpec) own started (by kernel_rfl) Tryz.func3
  (witness_row_at (enc := enc) (C := Tryz.checked) false (World.laidAll Tryz.prog os laid) #[wit] (World.laidAll_os _ _ _) (by kernel_rfl) (by kernel_rfl) (by kernel_rfl)
   (OpenSpec.preRow_of_cond 8 hx (by kernel_rfl) (fun k hk => by cases hk; kernel_rfl) (by kernel_rfl) (laidMet_laidAll _ (by kernel_rfl) (by kernel_rfl)))) ?_
 intro W base args ds gs before hval hW _ hk _ hL _ _
 exact Jm6 H enc W base args ds gs before hval hW (hk _ rfl) hL
theorem over : Rows.printShowsUptoRow.holds Tryz.pinned (Rows.OpenSpec.upto Rows.printShowsSpec) :=
 OpenClaim.holds_of_cond 3 Tryz.f3 rfl rfl rfl rfl rfl rfl rfl ⟨rfl, rfl, rfl, rfl, rfl⟩ rfl rfl rfl rfl rfl (by kernel_rfl) Tryz.func3 (by kernel_rfl)
  (of_decide_eq_true (by kernel_rfl)) (by unfold Func.isWrapper; first | (rw [if_pos (by decide +kernel)]; kernel_rfl) | (rw [if_neg (by decide +kernel)]; exact ⟨rfl, rfl⟩))
  (fun os started H enc _ F => by rw [OpenClaim.pre_eq_preRow]; exact JoQ os started H enc F)
theorem plain (f : FuncId) (fn : Func) (hf : Tryz.pinned.checked.prog.funcNamed "touchstone/touchstonelaw04.PrintShows" = some f) (hfn : Tryz.pinned.checked.prog.funcs[f]? = some fn) :
  true = Tryz.pinned.checked.prog.looks [] ∧ ∀ (j : Nat) t, fn.params[j]? = some t → Tryz.pinned.checked.prog.wantsStandIn t = false := by
 obtain rfl : f = 3 := Option.some.inj ((show Tryz.prog.funcNamed "touchstone/touchstonelaw04.PrintShows" = some 3 by kernel_rfl).symm.trans hf) |>.symm
 obtain rfl : fn = Tryz.f3 := (Option.some.inj (Tryz.func3.symm.trans hfn)).symm
 refine ⟨by kernel_rfl, fun j t ht => ?_⟩
 rw [Tryz.params3] at ht
 have : t = 25 := by simpa using Array.mem_of_getElem? ht
 subst this
 exact (show Tryz.prog.wantsStandIn 25 = false by kernel_rfl)
theorem proved : Rows.PrintShowsUptoCardSaid :=
 Claim7.holds_tied_plain_at .later [] _ _ _ _ over (fun _ h => by cases h) (by kernel_rfl) (fun _ h => by cases h) printShowsUpto_row_tie rfl ⟨rfl, rfl⟩ (by kernel_rfl) rfl plain (by kernel_rfl)
end Go.Proofs.YtlmmgpmioaecnaaGreatDoor.printShowsUpto
