/- The law ReportAll holds, its second form, its tied card: its call returns true, whatever scenarios it is handed, of bulk at most 1048576, on every tape, the listed package-level variables being as the program's text lays them; nothing that was there is changed. -/
import Derived.Test.YtlholbhaajklhaaGreatDoorRows
import Derived.WalkKit
import Derived.ProofKit
import Derived.OpenShut
import Derived.Carry
import Derived.ChangeMaps5
import Derived.LaidMore
import Derived.Lay
import Derived.Stop.Joined
import Derived.Deep.DeepHandedRow
import Derived.SevenTiedAt
import Derived.Test.YtlholbhaajklhaaGreatDoorTie
import Derived.Test.YtlholbhaajklhaaGreatDoorCards
import Derived.Test.YtlholbhaajklhaaGreatDoorRzL
import Derived.Test.YtlholbhaajklhaaGreatDoorRzB
import Derived.Test.YtlholbhaajklhaaGreatDoorRzJ
namespace Go.Proofs.YtlholbhaajklhaaGreatDoor.reportAllUpto
open Go Go.ChangeShapes Go.WideShapes Go.ChangeAt Go.RowKit Go.ChangeMaps
theorem own : ownKnob Tryz.prog.godebug = none := by kernel_rfl
theorem mixed : Tryz.prog.follows .mixedOrders = true := by kernel_rfl
theorem Jqe : ∀ tp, (none : Option TypeId) = some tp → ∀ u, Tryz.prog.typeName? 3 u = some "*errors.errorString" → u = tp := fun tp h => by cases h
abbrev laid : List (String × DataW Unit) := [("math/bits.deBruijn32tab", Rows.laid_math_bits_deBruijn32tab), ("math/bits.deBruijn64tab", Rows.laid_math_bits_deBruijn64tab), ("internal/strconv.uint64pow10", Rows.laid_internal_strconv_uint64pow10), ("unicode/utf8.acceptRanges", Rows.laid_unicode_utf8_acceptRanges), ("touchstone/pat.words", Rows.laid_touchstone_pat_words), ("touchstone/report.classes", Rows.laid_touchstone_report_classes), ("touchstone/report.kinds", Rows.laid_touchstone_report_kinds), ("unicode/utf8.first", Rows.laid_unicode_utf8_first)]
abbrev use : List String := ["internal/strconv.uint64pow10", "touchstone/pat.words", "touchstone/report.classes", "touchstone/report.kinds"]
theorem JpJ : Vm.glOf Tryz.prog none laid use = some Vm.patGl := by kernel_rfl
theorem JpK (W : World) (v1 : Value) (lv : Vm.V) (l : List Vm.Sw) (hl0 : Vm.Row Vm.Sw.cells lv l) (hok : ∀ s ∈ l, s.ok) (hsz : ∀ s ∈ l, Vm.vtots s.cells ≤ 100000000) (hlen : l.length ≤ 1000000000) (r1 : Vm.R (Vm.worldGh W) lv v1) (hl : laidMetH Tryz.prog laid W) :
  Calls Tryz.prog 5 ⟨[v1]⟩ W fun e w' => e = .returned (.bool true) ∧ Below W.heap.size W w' := by
 letI : Vm.Memo := Vm.patMemo
 letI : Vm.NY := Vm.pat_ny
 letI : Vm.NZ := Vm.pat_nz
 letI : Vm.NO := Vm.pat_no
 letI : Vm.NA := Vm.pat_na
 rw [MakeChecks.laidMetH_plain _ _ _ (by kernel_rfl)] at hl
 have hg := Vm.GlV_of_laidMet Jqe JpJ hl
 obtain ⟨v, st', hW, rfl⟩ := Vm.law5 Vm.patGl Vm.pat_hits Vm.patGl_get0 Vm.patGl_get1 Vm.patGl_get ⟨0, .nil⟩ lv l hl0 hok hsz hlen
 obtain ⟨N, hN⟩ := Vm.W_fuel hW rfl
 have hs := Vm.sound mixed W.heap.size (Vm.memo_ok Vm.pat_rules _) N Vm.patGl (.f 5) [lv] ⟨0, .nil⟩
 have hih : Vm.ihCall (Vm.X Tryz.prog N) Vm.patGl (.f 5) [lv] ⟨0, .nil⟩ = .val (.bool true) st' := by simp [Vm.ihCall, hN]
 rw [hih] at hs
 refine (hs _ W _ ⟨hg, rfl⟩ (Vm.Inv.empty W) (.cons _ _ _ _ r1 .nil)).mono ?_
 rintro e w' ⟨g', c, rfl, h1, _, h3⟩
 cases h1
 exact ⟨rfl, h3.below⟩
set_option maxRecDepth 100000 in
theorem arg {H : Type} {enc : TypeId × Value → H} {W : World} {base : Nat} {v : Value} {d : DataW H} {p : List MemPlace} (hv : Value.okWide Tryz.prog W .any base 38 v) (h : DataW.Trod enc Tryz.prog W 0 (fun _ => true) true 38 v d p)
  (hb : Vm.bulk d ≤ 1048576) : ∃ (lv : Vm.V) (l : List Vm.Sw), Vm.Row Vm.Sw.cells lv l ∧ (∀ s ∈ l, s.ok) ∧ (∀ s ∈ l, Vm.vtots s.cells ≤ 100000000) ∧ l.length ≤ 1000000000 ∧ Vm.R (Vm.worldGh W) lv v := by
 obtain ⟨a, len, cap, rfl⟩ := okWide_slice Tryz.underlying38 hv
 obtain ⟨n, h⟩ := h
 obtain ⟨vs, h1, h2, h3⟩ := Vm.shp_of_trod2 (T := 38 :: Vm.rTs) (by kernel_rfl) n 38 _ _ (by decide) h
 cases n with
 | zero => exact h2.elim
 | succ n =>
  obtain ⟨lv, l, rfl, hl, hok⟩ := Vm.row_of (f := Vm.Sw.cells) (Q := Vm.Sw.ok) Tryz.underlying38 h2 (fun l hl => Vm.scen_of hl)
  have h4 : Vm.vtots [lv] ≤ Vm.bulk d := h3
  have hR : Vm.R (Vm.worldGh W) lv (.slice a len cap) := by cases h1 with | cons _ _ _ _ h _ => exact h
  have hfl := Vm.vtots_flat (f := Vm.Sw.cells) l (fun s _ => s.len12)
  refine ⟨lv, l, hl, hok, fun s hs => ?_, ?_, hR⟩
  ·have h5 := Vm.vtots_mem (f := Vm.Sw.cells) hs
   cases hl with
   | nils => cases hs
   | sl l ex =>
    have h6 : Vm.vtots (l.flatMap Vm.Sw.cells) + 1 + 0 ≤ Vm.bulk d := h4
    omega
  ·cases hl with
   | nils => exact Nat.zero_le _
   | sl l ex =>
    have h6 : Vm.vtots (l.flatMap Vm.Sw.cells) + 1 + 0 ≤ Vm.bulk d := h4
    omega
set_option maxRecDepth 100000 in
theorem JiN (H : Type) (enc : TypeId × Value → H) (W : World) (base : Nat) (args : Array Value) (ds gs : List (DataW H)) (before : List MemPlace)
  (hval0 : ∀ (j : Nat) t v, Tryz.f5.params[j]? = some t → args[j]? = some v → Value.okWide Tryz.prog W .any base t v)
  (hW : DataW.Whole enc Tryz.prog Tryz.f5.params.toList Rows.reportAllSpec.vars false W args.toList ds gs before) (hk : Rows.uptoSmall H (ds ++ gs) = true) (hL : laidMetH Tryz.prog laid W) :
  Calls Tryz.prog 5 args W fun e W' => ∃ v, e = .returned v ∧ Rows.reportAllSpec.post enc Tryz.prog Tryz.f5 false true false false W args v W' := by
 have hval : ∀ (j : Nat) t v, Tryz.f5.params[j]? = some t → args[j]? = some v → Value.okWide Tryz.prog W .any base t v := hval0
 have hW' := hW
 obtain ⟨p, q, hA0, hV, rfl, hfz, hnd⟩ := hW
 have hA : DataW.TrodAll enc Tryz.prog W 0 (fun _ => true) true Tryz.f5.params.toList args.toList ds p := hA0
 rw [Tryz.params5] at hA hval
 obtain ⟨v1, r1, d1, e1, p1, q1, ha1, rfl, rfl, t1, hA1⟩ := trodAll_cons hA
 obtain ⟨h5, rfl, rfl⟩ := trodAll_nil hA1
 subst h5
 obtain ⟨rfl, rfl⟩ := trodVars_none hV
 obtain ⟨args⟩ := args
 simp only at ha1
 subst ha1
 clear hA0 hval0 hA hA1
 have hbk : Vm.bulk d1 + 0 ≤ 1048576 := of_decide_eq_true hk
 obtain ⟨lv, l, hl0, hok, hsz, hlen, x1⟩ := arg (hval 0 38 v1 rfl rfl) t1 (by omega)
 have hlt1 : ∀ x ∈ p1, x.block < W.heap.size := fun x hx => by simpa using hW'.lt x (by simp [hx])
 refine (JpK W v1 lv l hl0 hok hsz hlen x1 hL).mono fun e W' ⟨he, hg⟩ => ?_
 subst he
 have lo : laidOutB Tryz.prog = true := by kernel_rfl
 exact ⟨_, rfl, _, _, _, [], _, [], hW', (trodAll_cons_mk (shut_bool Tryz.underlying4 _) trodAll_mk0),
  trodAll_cons_mk (Below.trod lo (by kernel_rfl) (of_decide_eq_true (by kernel_rfl)) t1 hg hlt1) trodAll_mk0,
  rfl, hg.frame _, fun h => by cases h⟩
abbrev wit : Value := .slice none 0 0
abbrev Jqf {H : Type} : DataW H := .nil
theorem JoT (os : Os) {H : Type} (enc : TypeId × Value → H) : ∃ places, DataW.whole enc Tryz.prog ((World.laidAll Tryz.prog os laid).forCall (fun _ _ => 0) ⟨#[], #[wit], []⟩).memory Tryz.f5.params.toList Rows.reportAllSpec.vars false #[wit].toList 8 = some ([Jqf], [], places) :=
 ⟨[], by kernel_rfl⟩
set_option maxRecDepth 100000 in
theorem Jo4 (os : Os) (started : os.Started) (H : Type) (enc : TypeId × Value → H) (F : Stop.Interp) :
  ReturnsInHanded {} Tryz.checked os 5 .any ((Rows.OpenSpec.upto Rows.reportAllSpec).preRow enc Tryz.prog Tryz.f5 Rows.reportAllUptoRow.domain false Rows.reportAllUptoRow.laid) (((Rows.OpenSpec.upto Rows.reportAllSpec).at F).post enc Tryz.prog Tryz.f5 false true false false) := by
 obtain ⟨places, hx⟩ := JoT os enc
 refine returnsInHanded_of_row (C := Tryz.checked) (s := Rows.OpenSpec.upto Rows.reportAllSpec) own started (by kernel_rfl) Tryz.func5
  (witness_row_at (enc := enc) (C := Tryz.checked) false (World.laidAll Tryz.prog os laid) #[wit] (World.laidAll_os _ _ _) (by kernel_rfl) (by kernel_rfl) (by kernel_rfl)
   (OpenSpec.preRow_of_cond 8 hx (by kernel_rfl) (fun k hk => by cases hk; kernel_rfl) (by kernel_rfl) (laidMet_laidAll _ (by kernel_rfl) (by kernel_rfl)))) ?_
 intro W base args ds gs before hval hW _ hk _ hL _ _
 exact JiN H enc W base args ds gs before hval hW (hk _ rfl) hL
theorem over : Rows.reportAllUptoRow.holds Tryz.pinned (Rows.OpenSpec.upto Rows.reportAllSpec) :=
 OpenClaim.holds_of_cond 5 Tryz.f5 rfl rfl rfl rfl rfl rfl rfl ⟨rfl, rfl, rfl, rfl, rfl⟩ rfl rfl rfl rfl rfl (by kernel_rfl) Tryz.func5 (by kernel_rfl)
  (of_decide_eq_true (by kernel_rfl)) (by unfold Func.isWrapper; first | (rw [if_pos (by decide +kernel)]; kernel_rfl) | (rw [if_neg (by decide +kernel)]; exact ⟨rfl, rfl⟩))
  (fun os started H enc _ F => by rw [OpenClaim.pre_eq_preRow]; exact Jo4 os started H enc F)
theorem plain (f : FuncId) (fn : Func) (hf : Tryz.pinned.checked.prog.funcNamed "touchstone/touchstonelaw30.ReportAll" = some f) (hfn : Tryz.pinned.checked.prog.funcs[f]? = some fn) :
  true = Tryz.pinned.checked.prog.looks [] ∧ ∀ (j : Nat) t, fn.params[j]? = some t → Tryz.pinned.checked.prog.wantsStandIn t = false := by
 obtain rfl : f = 5 := Option.some.inj ((show Tryz.prog.funcNamed "touchstone/touchstonelaw30.ReportAll" = some 5 by kernel_rfl).symm.trans hf) |>.symm
 obtain rfl : fn = Tryz.f5 := (Option.some.inj (Tryz.func5.symm.trans hfn)).symm
 refine ⟨by kernel_rfl, fun j t ht => ?_⟩
 rw [Tryz.params5] at ht
 obtain rfl : t = 38 := by simpa using Array.mem_of_getElem? ht
 exact (show Tryz.prog.wantsStandIn 38 = false by kernel_rfl)
theorem proved : Rows.ReportAllUptoCardSaid :=
 Claim7.holds_tied_plain_at .later [] _ _ _ _ over (fun _ h => by cases h) (by kernel_rfl) (fun _ h => by cases h) reportAllUpto_row_tie rfl ⟨rfl, rfl⟩ (by kernel_rfl) rfl plain (by kernel_rfl)
end Go.Proofs.YtlholbhaajklhaaGreatDoor.reportAllUpto
