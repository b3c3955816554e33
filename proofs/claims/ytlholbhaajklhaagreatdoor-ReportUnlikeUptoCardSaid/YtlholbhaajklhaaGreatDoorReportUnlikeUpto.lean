/- The law ReportUnlike holds, its second form, its tied card: its call returns true, whatever scenarios it is handed, of bulk at most 1048576, on every tape, the listed package-level variables being as the program's text lays them; nothing that was there is changed. -/
import Derived.Test.YtlholbhaajklhaaGreatDoorRows
import Derived.WalkKit
import Derived.ProofKit
import Derived.OpenShut
import Derived.Carry
import Derived.ChangeMaps5
import Derived.LaidMore
import Derived.Lay
import Derived.Stop.Joined
import Derived.Deep.DeepHandedRow
import Derived.SevenTiedAt
import Derived.Test.YtlholbhaajklhaaGreatDoorTie
import Derived.Test.YtlholbhaajklhaaGreatDoorCards
import Derived.Test.YtlholbhaajklhaaGreatDoorRzM
import Derived.Test.YtlholbhaajklhaaGreatDoorRzB
import Derived.Test.YtlholbhaajklhaaGreatDoorRzJ
namespace Go.Proofs.YtlholbhaajklhaaGreatDoor.reportUnlikeUpto
open Go Go.ChangeShapes Go.WideShapes Go.ChangeAt Go.RowKit Go.ChangeMaps
theorem own : ownKnob Tryz.prog.godebug = none := by kernel_rfl
theorem mixed : Tryz.prog.follows .mixedOrders = true := by kernel_rfl
theorem Jp0 : ∀ tp, (none : Option TypeId) = some tp → ∀ u, Tryz.prog.typeName? 3 u = some "*errors.errorString" → u = tp := fun tp h => by cases h
abbrev laid : List (String × DataW Unit) := [("math/bits.deBruijn32tab", Rows.laid_math_bits_deBruijn32tab), ("math/bits.deBruijn64tab", Rows.laid_math_bits_deBruijn64tab), ("internal/strconv.uint64pow10", Rows.laid_internal_strconv_uint64pow10), ("unicode/utf8.acceptRanges", Rows.laid_unicode_utf8_acceptRanges), ("touchstone/pat.words", Rows.laid_touchstone_pat_words), ("touchstone/report.classes", Rows.laid_touchstone_report_classes), ("touchstone/report.kinds", Rows.laid_touchstone_report_kinds), ("unicode/utf8.first", Rows.laid_unicode_utf8_first)]
abbrev use : List String := ["internal/strconv.uint64pow10", "touchstone/pat.words", "touchstone/report.classes", "touchstone/report.kinds"]
theorem Jpu : Vm.glOf Tryz.prog none laid use = some Vm.patGl := by kernel_rfl
theorem Jpv (W : World) (v1 v2 : Value) (s t : Vm.Sw) (hok : s.ok) (hok' : t.ok) (hsz : Vm.vtots s.cells ≤ 10000000) (hsz' : Vm.vtots t.cells ≤ 10000000) (r1 : Vm.R (Vm.worldGh W) (.agg s.cells) v1) (r2 : Vm.R (Vm.worldGh W) (.agg t.cells) v2) (hl : laidMetH Tryz.prog laid W) :
  Calls Tryz.prog 4 ⟨[v1, v2]⟩ W fun e w' => e = .returned (.bool true) ∧ Below W.heap.size W w' := by
 letI : Vm.Memo := Vm.patMemo
 letI : Vm.NY := Vm.pat_ny
 letI : Vm.NZ := Vm.pat_nz
 letI : Vm.NO := Vm.pat_no
 letI : Vm.NA := Vm.pat_na
 rw [MakeChecks.laidMetH_plain _ _ _ (by kernel_rfl)] at hl
 have hg := Vm.GlV_of_laidMet Jp0 Jpu hl
 obtain ⟨v, st', hW, rfl⟩ := Vm.law4 Vm.patGl Vm.pat_hits Vm.patGl_get0 Vm.patGl_get1 Vm.patGl_get ⟨0, .nil⟩ s t hok hok' hsz hsz'
 obtain ⟨N, hN⟩ := Vm.W_fuel hW rfl
 have hs := Vm.sound mixed W.heap.size (Vm.memo_ok Vm.pat_rules _) N Vm.patGl (.f 4) [.agg s.cells, .agg t.cells] ⟨0, .nil⟩
 have hih : Vm.ihCall (Vm.X Tryz.prog N) Vm.patGl (.f 4) [.agg s.cells, .agg t.cells] ⟨0, .nil⟩ = .val (.bool true) st' := by simp [Vm.ihCall, hN]
 rw [hih] at hs
 refine (hs _ W _ ⟨hg, rfl⟩ (Vm.Inv.empty W) (.cons _ _ _ _ r1 (.cons _ _ _ _ r2 .nil))).mono ?_
 rintro e w' ⟨g', c, rfl, h1, _, h3⟩
 cases h1
 exact ⟨rfl, h3.below⟩
set_option maxRecDepth 100000 in
theorem arg {H : Type} {enc : TypeId × Value → H} {W : World} {base : Nat} {v : Value} {d : DataW H} {p : List MemPlace} (hv : Value.okWide Tryz.prog W .any base 28 v) (h : DataW.Trod enc Tryz.prog W 0 (fun _ => true) true 28 v d p)
  (hb : Vm.bulk d ≤ 1048576) : ∃ s : Vm.Sw, s.ok ∧ Vm.vtots s.cells ≤ 10000000 ∧ Vm.R (Vm.worldGh W) (.agg s.cells) v := by
 obtain ⟨cs, rfl, _⟩ := okWide_struct Tryz.underlying28 hv
 obtain ⟨n, h⟩ := h
 obtain ⟨vs, h1, h2, h3⟩ := Vm.shp_of_trod2 Vm.rts_ok n 28 _ _ (by decide) h
 obtain ⟨s, rfl, hok⟩ := Vm.scen_of h2
 have h4 : Vm.vtots s.cells ≤ Vm.bulk d := h3
 exact ⟨s, hok, by omega, .agg _ _ h1⟩
set_option maxRecDepth 100000 in
theorem JiB (H : Type) (enc : TypeId × Value → H) (W : World) (base : Nat) (args : Array Value) (ds gs : List (DataW H)) (before : List MemPlace)
  (hval0 : ∀ (j : Nat) t v, Tryz.f4.params[j]? = some t → args[j]? = some v → Value.okWide Tryz.prog W .any base t v)
  (hW : DataW.Whole enc Tryz.prog Tryz.f4.params.toList Rows.reportUnlikeSpec.vars false W args.toList ds gs before) (hk : Rows.uptoSmall H (ds ++ gs) = true) (hL : laidMetH Tryz.prog laid W) :
  Calls Tryz.prog 4 args W fun e W' => ∃ v, e = .returned v ∧ Rows.reportUnlikeSpec.post enc Tryz.prog Tryz.f4 false true false false W args v W' := by
 have hval : ∀ (j : Nat) t v, Tryz.f4.params[j]? = some t → args[j]? = some v → Value.okWide Tryz.prog W .any base t v := hval0
 have hW' := hW
 obtain ⟨p, q, hA0, hV, rfl, hfz, hnd⟩ := hW
 have hA : DataW.TrodAll enc Tryz.prog W 0 (fun _ => true) true Tryz.f4.params.toList args.toList ds p := hA0
 rw [Tryz.params4] at hA hval
 obtain ⟨v1, r1, d1, e1, p1, q1, ha1, rfl, rfl, t1, hA1⟩ := trodAll_cons hA
 obtain ⟨v2, r2, d2, e2, p2, q2, ha2, rfl, rfl, t2, hA2⟩ := trodAll_cons hA1
 obtain ⟨h5, rfl, rfl⟩ := trodAll_nil hA2
 subst h5
 obtain ⟨rfl, rfl⟩ := trodVars_none hV
 obtain ⟨args⟩ := args
 simp only at ha1
 subst ha2
 subst ha1
 clear hA0 hval0 hA hA1 hA2
 have hbk : Vm.bulk d1 + (Vm.bulk d2 + 0) ≤ 1048576 := of_decide_eq_true hk
 obtain ⟨s, hok, hsz, x1⟩ := arg (hval 0 28 v1 rfl rfl) t1 (by omega)
 obtain ⟨t, hok', hsz', x2⟩ := arg (hval 1 28 v2 rfl rfl) t2 (by omega)
 have hlt1 : ∀ x ∈ p1, x.block < W.heap.size := fun x hx => by simpa using hW'.lt x (by simp [hx])
 have hlt2 : ∀ x ∈ p2, x.block < W.heap.size := fun x hx => by simpa using hW'.lt x (by simp [hx])
 refine (Jpv W v1 v2 s t hok hok' hsz hsz' x1 x2 hL).mono fun e W' ⟨he, hg⟩ => ?_
 subst he
 have lo : laidOutB Tryz.prog = true := by kernel_rfl
 exact ⟨_, rfl, _, _, _, [], _, [], hW', (trodAll_cons_mk (shut_bool Tryz.underlying4 _) trodAll_mk0),
  trodAll_cons_mk (Below.trod lo (by kernel_rfl) (of_decide_eq_true (by kernel_rfl)) t1 hg hlt1) (trodAll_cons_mk (Below.trod lo (by kernel_rfl) (of_decide_eq_true (by kernel_rfl)) t2 hg hlt2) trodAll_mk0),
  rfl, hg.frame _, fun h => by cases h⟩
abbrev wit : Value := .agg #[.slice none 0 0, .int .i64 0, .int .u8 0, .string ⟨#[]⟩, .int .i64 0, .slice none 0 0, .slice none 0 0, .bool false, .string ⟨#[]⟩, .int .i64 0, .string ⟨#[]⟩, .string ⟨#[]⟩]
abbrev Jpw {H : Type} : DataW H := .agg [.nil, .agg [.lit (.int .i64 0), .lit (.int .u8 0), .lit (.string []), .lit (.int .i64 0), .nil, .nil], .lit (.bool false), .lit (.string []), .lit (.int .i64 0), .lit (.string []), .lit (.string [])]
theorem JoA (os : Os) {H : Type} (enc : TypeId × Value → H) : ∃ places, DataW.whole enc Tryz.prog ((World.laidAll Tryz.prog os laid).forCall (fun _ _ => 0) ⟨#[], #[wit, wit], []⟩).memory Tryz.f4.params.toList Rows.reportUnlikeSpec.vars false #[wit, wit].toList 8 = some ([Jpw, Jpw], [], places) :=
 ⟨[], by kernel_rfl⟩
set_option maxRecDepth 100000 in
theorem JoU (os : Os) (started : os.Started) (H : Type) (enc : TypeId × Value → H) (F : Stop.Interp) :
  ReturnsInHanded {} Tryz.checked os 4 .any ((Rows.OpenSpec.upto Rows.reportUnlikeSpec).preRow enc Tryz.prog Tryz.f4 Rows.reportUnlikeUptoRow.domain false Rows.reportUnlikeUptoRow.laid) (((Rows.OpenSpec.upto Rows.reportUnlikeSpec).at F).post enc Tryz.prog Tryz.f4 false true false false) := by
 obtain ⟨places, hx⟩ := JoA os enc
 refine returnsInHanded_of_row (C := Tryz.checked) (s := Rows.OpenSpec.upto Rows.reportUnlikeSpec) own started (by kernel_rfl) Tryz.func4
  (witness_row_at (enc := enc) (C := Tryz.checked) false (World.laidAll Tryz.prog os laid) #[wit, wit] (World.laidAll_os _ _ _) (by kernel_rfl) (by kernel_rfl) (by kernel_rfl)
   (OpenSpec.preRow_of_cond 8 hx (by kernel_rfl) (fun k hk => by cases hk; kernel_rfl) (by kernel_rfl) (laidMet_laidAll _ (by kernel_rfl) (by kernel_rfl)))) ?_
 intro W base args ds gs before hval hW _ hk _ hL _ _
 exact JiB H enc W base args ds gs before hval hW (hk _ rfl) hL
theorem over : Rows.reportUnlikeUptoRow.holds Tryz.pinned (Rows.OpenSpec.upto Rows.reportUnlikeSpec) :=
 OpenClaim.holds_of_cond 4 Tryz.f4 rfl rfl rfl rfl rfl rfl rfl ⟨rfl, rfl, rfl, rfl, rfl⟩ rfl rfl rfl rfl rfl (by kernel_rfl) Tryz.func4 (by kernel_rfl)
  (of_decide_eq_true (by kernel_rfl)) (by unfold Func.isWrapper; first | (rw [if_pos (by decide +kernel)]; kernel_rfl) | (rw [if_neg (by decide +kernel)]; exact ⟨rfl, rfl⟩))
  (fun os started H enc _ F => by rw [OpenClaim.pre_eq_preRow]; exact JoU os started H enc F)
theorem plain (f : FuncId) (fn : Func) (hf : Tryz.pinned.checked.prog.funcNamed "touchstone/touchstonelaw30.ReportUnlike" = some f) (hfn : Tryz.pinned.checked.prog.funcs[f]? = some fn) :
  true = Tryz.pinned.checked.prog.looks [] ∧ ∀ (j : Nat) t, fn.params[j]? = some t → Tryz.pinned.checked.prog.wantsStandIn t = false := by
 obtain rfl : f = 4 := Option.some.inj ((show Tryz.prog.funcNamed "touchstone/touchstonelaw30.ReportUnlike" = some 4 by kernel_rfl).symm.trans hf) |>.symm
 obtain rfl : fn = Tryz.f4 := (Option.some.inj (Tryz.func4.symm.trans hfn)).symm
 refine ⟨by kernel_rfl, fun j t ht => ?_⟩
 rw [Tryz.params4] at ht
 obtain rfl : t = 28 := by simpa using Array.mem_of_getElem? ht
 exact (show Tryz.prog.wantsStandIn 28 = false by kernel_rfl)
theorem proved : Rows.ReportUnlikeUptoCardSaid :=
 Claim7.holds_tied_plain_at .later [] _ _ _ _ over (fun _ h => by cases h) (by kernel_rfl) (fun _ h => by cases h) reportUnlikeUpto_row_tie rfl ⟨rfl, rfl⟩ (by kernel_rfl) rfl plain (by kernel_rfl)
end Go.Proofs.YtlholbhaajklhaaGreatDoor.reportUnlikeUpto
