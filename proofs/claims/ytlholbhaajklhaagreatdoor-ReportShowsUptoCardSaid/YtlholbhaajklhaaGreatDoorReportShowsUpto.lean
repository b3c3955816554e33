/- The law ReportShows holds, its second form, its tied card: its call returns true, whatever scenario it is handed, of bulk at most 1048576, on every tape, the listed package-level variables being as the program's text lays them; nothing that was there is changed. -/
import Derived.Test.YtlholbhaajklhaaGreatDoorRows
import Derived.WalkKit
import Derived.ProofKit
import Derived.OpenShut
import Derived.Carry
import Derived.ChangeMaps5
import Derived.LaidMore
import Derived.Lay
import Derived.Stop.Joined
import Derived.Deep.DeepHandedRow
import Derived.SevenTiedAt
import Derived.Test.YtlholbhaajklhaaGreatDoorTie
import Derived.Test.YtlholbhaajklhaaGreatDoorCards
import Derived.Test.YtlholbhaajklhaaGreatDoorRzI
import Derived.Test.YtlholbhaajklhaaGreatDoorRzB
import Derived.Test.YtlholbhaajklhaaGreatDoorRzJ
namespace Go.Proofs.YtlholbhaajklhaaGreatDoor.reportShowsUpto
open Go Go.ChangeShapes Go.WideShapes Go.ChangeAt Go.RowKit Go.ChangeMaps
theorem own : ownKnob Tryz.prog.godebug = none := by kernel_rfl
theorem mixed : Tryz.prog.follows .mixedOrders = true := by kernel_rfl
theorem JpN : ∀ tp, (none : Option TypeId) = some tp → ∀ u, Tryz.prog.typeName? 3 u = some "*errors.errorString" → u = tp := fun tp h => by cases h
abbrev laid : List (String × DataW Unit) := [("math/bits.deBruijn32tab", Rows.laid_math_bits_deBruijn32tab), ("math/bits.deBruijn64tab", Rows.laid_math_bits_deBruijn64tab), ("internal/strconv.uint64pow10", Rows.laid_internal_strconv_uint64pow10), ("unicode/utf8.acceptRanges", Rows.laid_unicode_utf8_acceptRanges), ("touchstone/pat.words", Rows.laid_touchstone_pat_words), ("touchstone/report.classes", Rows.laid_touchstone_report_classes), ("touchstone/report.kinds", Rows.laid_touchstone_report_kinds), ("unicode/utf8.first", Rows.laid_unicode_utf8_first)]
abbrev use : List String := ["internal/strconv.uint64pow10", "touchstone/pat.words", "touchstone/report.classes", "touchstone/report.kinds"]
theorem Jpn : Vm.glOf Tryz.prog none laid use = some Vm.patGl := by kernel_rfl
theorem JoI (W : World) (v1 : Value) (s : Vm.Sw) (hok : s.ok) (hsz : Vm.vtots s.cells ≤ 100000000) (r1 : Vm.R (Vm.worldGh W) (.agg s.cells) v1) (hl : laidMetH Tryz.prog laid W) :
  Calls Tryz.prog 3 ⟨[v1]⟩ W fun e w' => e = .returned (.bool true) ∧ Below W.heap.size W w' := by
 letI : Vm.Memo := Vm.patMemo
 letI : Vm.NY := Vm.pat_ny
 letI : Vm.NZ := Vm.pat_nz
 letI : Vm.NO := Vm.pat_no
 letI : Vm.NA := Vm.pat_na
 rw [MakeChecks.laidMetH_plain _ _ _ (by kernel_rfl)] at hl
 have hg := Vm.GlV_of_laidMet JpN Jpn hl
 obtain ⟨v, st', hW, rfl⟩ := Vm.law3 Vm.patGl Vm.pat_hits Vm.patGl_get0 Vm.patGl_get1 Vm.patGl_get ⟨0, .nil⟩ s hok hsz
 obtain ⟨N, hN⟩ := Vm.W_fuel hW rfl
 have hs := Vm.sound mixed W.heap.size (Vm.memo_ok Vm.pat_rules _) N Vm.patGl (.f 3) [.agg s.cells] ⟨0, .nil⟩
 have hih : Vm.ihCall (Vm.X Tryz.prog N) Vm.patGl (.f 3) [.agg s.cells] ⟨0, .nil⟩ = .val (.bool true) st' := by simp [Vm.ihCall, hN]
 rw [hih] at hs
 refine (hs _ W _ ⟨hg, rfl⟩ (Vm.Inv.empty W) (.cons _ _ _ _ r1 .nil)).mono ?_
 rintro e w' ⟨g', c, rfl, h1, _, h3⟩
 cases h1
 exact ⟨rfl, h3.below⟩
set_option maxRecDepth 100000 in
theorem arg {H : Type} {enc : TypeId × Value → H} {W : World} {base : Nat} {v : Value} {d : DataW H} {p : List MemPlace} (hv : Value.okWide Tryz.prog W .any base 28 v) (h : DataW.Trod enc Tryz.prog W 0 (fun _ => true) true 28 v d p)
  (hb : Vm.bulk d ≤ 1048576) : ∃ s : Vm.Sw, s.ok ∧ Vm.vtots s.cells ≤ 100000000 ∧ Vm.R (Vm.worldGh W) (.agg s.cells) v := by
 obtain ⟨cs, rfl, _⟩ := okWide_struct Tryz.underlying28 hv
 obtain ⟨n, h⟩ := h
 obtain ⟨vs, h1, h2, h3⟩ := Vm.shp_of_trod2 Vm.rts_ok n 28 _ _ (by decide) h
 obtain ⟨s, rfl, hok⟩ := Vm.scen_of h2
 have h4 : Vm.vtots s.cells ≤ Vm.bulk d := h3
 exact ⟨s, hok, by omega, .agg _ _ h1⟩
set_option maxRecDepth 100000 in
theorem JiD (H : Type) (enc : TypeId × Value → H) (W : World) (base : Nat) (args : Array Value) (ds gs : List (DataW H)) (before : List MemPlace)
  (hval0 : ∀ (j : Nat) t v, Tryz.f3.params[j]? = some t → args[j]? = some v → Value.okWide Tryz.prog W .any base t v)
  (hW : DataW.Whole enc Tryz.prog Tryz.f3.params.toList Rows.reportShowsSpec.vars false W args.toList ds gs before) (hk : Rows.uptoSmall H (ds ++ gs) = true) (hL : laidMetH Tryz.prog laid W) :
  Calls Tryz.prog 3 args W fun e W' => ∃ v, e = .returned v ∧ Rows.reportShowsSpec.post enc Tryz.prog Tryz.f3 false true false false W args v W' := by
 have hval : ∀ (j : Nat) t v, Tryz.f3.params[j]? = some t → args[j]? = some v → Value.okWide Tryz.prog W .any base t v := hval0
 have hW' := hW
 obtain ⟨p, q, hA0, hV, rfl, hfz, hnd⟩ := hW
 have hA : DataW.TrodAll enc Tryz.prog W 0 (fun _ => true) true Tryz.f3.params.toList args.toList ds p := hA0
 rw [Tryz.params3] at hA hval
 obtain ⟨v1, r1, d1, e1, p1, q1, ha1, rfl, rfl, t1, hA1⟩ := trodAll_cons hA
 obtain ⟨h5, rfl, rfl⟩ := trodAll_nil hA1
 subst h5
 obtain ⟨rfl, rfl⟩ := trodVars_none hV
 obtain ⟨args⟩ := args
 simp only at ha1
 subst ha1
 clear hA0 hval0 hA hA1
 have hbk : Vm.bulk d1 + 0 ≤ 1048576 := of_decide_eq_true hk
 obtain ⟨s, hok, hsz, x1⟩ := arg (hval 0 28 v1 rfl rfl) t1 (by omega)
 have hlt1 : ∀ x ∈ p1, x.block < W.heap.size := fun x hx => by simpa using hW'.lt x (by simp [hx])
 refine (JoI W v1 s hok hsz x1 hL).mono fun e W' ⟨he, hg⟩ => ?_
 subst he
 have lo : laidOutB Tryz.prog = true := by kernel_rfl
 exact ⟨_, rfl, _, _, _, [], _, [], hW', (trodAll_cons_mk (shut_bool Tryz.underlying4 _) trodAll_mk0),
  trodAll_cons_mk (Below.trod lo (by kernel_rfl) (of_decide_eq_true (by kernel_rfl)) t1 hg hlt1) trodAll_mk0,
  rfl, hg.frame _, fun h => by cases h⟩
abbrev wit : Value := .agg #[.slice none 0 0, .int .i64 0, .int .u8 0, .string ⟨#[]⟩, .int .i64 0, .slice none 0 0, .slice none 0 0, .bool false, .string ⟨#[]⟩, .int .i64 0, .string ⟨#[]⟩, .string ⟨#[]⟩]
abbrev JpO {H : Type} : DataW H := .agg [.nil, .agg [.lit (.int .i64 0), .lit (.int .u8 0), .lit (.string []), .lit (.int .i64 0), .nil, .nil], .lit (.bool false), .lit (.string []), .lit (.int .i64 0), .lit (.string []), .lit (.string [])]
theorem Jmh (os : Os) {H : Type} (enc : TypeId × Value → H) : ∃ places, DataW.whole enc Tryz.prog ((World.laidAll Tryz.prog os laid).forCall (fun _ _ => 0) ⟨#[], #[wit], []⟩).memory Tryz.f3.params.toList Rows.reportShowsSpec.vars false #[wit].toList 8 = some ([JpO], [], places) :=
 ⟨[], by kernel_rfl⟩
set_option maxRecDepth 100000 in
theorem JoJ (os : Os) (started : os.Started) (H : Type) (enc : TypeId × Value → H) (F : Stop.Interp) :
  ReturnsInHanded {} Tryz.checked os 3 .any ((Rows.OpenSpec.upto Rows.reportShowsSpec).preRow enc Tryz.prog Tryz.f3 Rows.reportShowsUptoRow.domain false Rows.reportShowsUptoRow.laid) (((Rows.OpenSpec.upto Rows.reportShowsSpec).at F).post enc Tryz.prog Tryz.f3 false true false false) := by
 obtain ⟨places, hx⟩ := Jmh os enc
 refine returnsInHanded_of_row (C := Tryz.checked) (s := Rows.OpenSpec.upto Rows.reportShowsSpec) own started (by kernel_rfl) Tryz.func3
  (witness_row_at (enc := enc) (C := Tryz.checked) false (World.laidAll Tryz.prog os laid) #[wit] (World.laidAll_os _ _ _) (by kernel_rfl) (by kernel_rfl) (by kernel_rfl)
   (OpenSpec.preRow_of_cond 8 hx (by kernel_rfl) (fun k hk => by cases hk; kernel_rfl) (by kernel_rfl) (laidMet_laidAll _ (by kernel_rfl) (by kernel_rfl)))) ?_
 intro W base args ds gs before hval hW _ hk _ hL _ _
 exact JiD H enc W base args ds gs before hval hW (hk _ rfl) hL
theorem over : Rows.reportShowsUptoRow.holds Tryz.pinned (Rows.OpenSpec.upto Rows.reportShowsSpec) :=
 OpenClaim.holds_of_cond 3 Tryz.f3 rfl rfl rfl rfl rfl rfl rfl ⟨rfl, rfl, rfl, rfl, rfl⟩ rfl rfl rfl rfl rfl (by kernel_rfl) Tryz.func3 (by kernel_rfl)
  (of_decide_eq_true (by kernel_rfl)) (by unfold Func.isWrapper; first | (rw [if_pos (by decide +kernel)]; kernel_rfl) | (rw [if_neg (by decide +kernel)]; exact ⟨rfl, rfl⟩))
  (fun os started H enc _ F => by rw [OpenClaim.pre_eq_preRow]; exact JoJ os started H enc F)
theorem plain (f : FuncId) (fn : Func) (hf : Tryz.pinned.checked.prog.funcNamed "touchstone/touchstonelaw30.ReportShows" = some f) (hfn : Tryz.pinned.checked.prog.funcs[f]? = some fn) :
  true = Tryz.pinned.checked.prog.looks [] ∧ ∀ (j : Nat) t, fn.params[j]? = some t → Tryz.pinned.checked.prog.wantsStandIn t = false := by
 obtain rfl : f = 3 := Option.some.inj ((show Tryz.prog.funcNamed "touchstone/touchstonelaw30.ReportShows" = some 3 by kernel_rfl).symm.trans hf) |>.symm
 obtain rfl : fn = Tryz.f3 := (Option.some.inj (Tryz.func3.symm.trans hfn)).symm
 refine ⟨by kernel_rfl, fun j t ht => ?_⟩
 rw [Tryz.params3] at ht
 obtain rfl : t = 28 := by simpa using Array.mem_of_getElem? ht
 exact (show Tryz.prog.wantsStandIn 28 = false by kernel_rfl)
theorem proved : Rows.ReportShowsUptoCardSaid :=
 Claim7.holds_tied_plain_at .later [] _ _ _ _ over (fun _ h => by cases h) (by kernel_rfl) (fun _ h => by cases h) reportShowsUpto_row_tie rfl ⟨rfl, rfl⟩ (by kernel_rfl) rfl plain (by kernel_rfl)
end Go.Proofs.YtlholbhaajklhaaGreatDoor.reportShowsUpto
