/- The law SpellShows holds, its second form, its tied card: its call returns true, whatever node and text it is handed, of bulk at most 1048576, on every tape, the listed package-level variables being as the program's text lays them; nothing that was there is changed. -/
import Derived.Test.YtphinjijaglokaaGreatDoorRows
import Derived.WalkKit
import Derived.ProofKit
import Derived.OpenShut
import Derived.Carry
import Derived.ChangeMaps5
import Derived.LaidMore
import Derived.Lay
import Derived.Stop.Joined
import Derived.Deep.DeepHandedRow
import Derived.SevenTiedAt
import Derived.Test.YtphinjijaglokaaGreatDoorTie
import Derived.Test.YtphinjijaglokaaGreatDoorCards
import Derived.Test.YtphinjijaglokaaGreatDoorSzW
import Derived.Test.YtphinjijaglokaaGreatDoorSzP
import Derived.Test.YtphinjijaglokaaGreatDoorSzR
import Derived.Test.YtphinjijaglokaaGreatDoorSzB
namespace Go.Proofs.YtphinjijaglokaaGreatDoor.spellShowsUpto
open Go Go.ChangeShapes Go.WideShapes Go.ChangeAt Go.RowKit Go.ChangeMaps
theorem own : ownKnob Tryz.prog.godebug = none := by kernel_rfl
theorem mixed : Tryz.prog.follows .mixedOrders = true := by kernel_rfl
theorem Jp1 : ∀ tp, ((some 182) : Option TypeId) = some tp → ∀ u, Tryz.prog.typeName? 3 u = some "*errors.errorString" → u = tp := fun tp h u hu => by
 cases h
 exact typeName_ptr_named (nm := "errors.errorString") (by kernel_rfl) (by kernel_rfl) (by decide) u hu
abbrev laid : List (String × DataW Unit) := [("math/bits.deBruijn32tab", Rows.laid_math_bits_deBruijn32tab), ("math/bits.deBruijn64tab", Rows.laid_math_bits_deBruijn64tab), ("internal/strconv.uint64pow10", Rows.laid_internal_strconv_uint64pow10), ("unicode/utf8.acceptRanges", Rows.laid_unicode_utf8_acceptRanges), ("strconv.ErrRange", Rows.laid_strconv_ErrRange), ("strconv.ErrSyntax", Rows.laid_strconv_ErrSyntax), ("unicode/utf8.first", Rows.laid_unicode_utf8_first)]
abbrev use : List String := ["internal/strconv.uint64pow10", "strconv.ErrRange", "strconv.ErrSyntax"]
theorem JpC : Vm.glOf Tryz.prog (some 182) laid use = some Vm.patGl := by kernel_rfl
theorem g1 : Vm.patGl.get 1 = some Vm.powV := by simp [Vm.patGl, Vm.Tr.get_put]
theorem g2 : Vm.patGl.get 2 = some Vm.errS := by simp [Vm.patGl, Vm.Tr.get_put]
theorem g3 : Vm.patGl.get 3 = some Vm.errR := by simp [Vm.patGl, Vm.Tr.get_put]
theorem JpD (W : World) (v1 v2 : Value) (cs : List Vm.V) (t : Vm.Nt) (s : Vm.S) (hr : ∀ st, Vm.NR st cs t) (hm : t.mass ≤ 1000000000) (hs : s.n ≤ 1000000000) (r1 : Vm.R (Vm.worldGh W) (.agg cs) v1) (r2 : Vm.R (Vm.worldGh W) (.str s) v2) (hl : laidMetH Tryz.prog laid W) :
  Calls Tryz.prog 3 ⟨[v1, v2]⟩ W fun e w' => e = .returned (.bool true) ∧ Below W.heap.size W w' := by
 letI : Vm.Memo := Vm.patMemo
 letI : Vm.NY := Vm.pat_ny
 letI : Vm.NZ := Vm.pat_nz
 letI : Vm.NO := Vm.pat_no
 letI : Vm.NA := Vm.pat_na
 rw [MakeChecks.laidMetH_plain _ _ _ (by kernel_rfl)] at hl
 have hg := Vm.GlV_of_laidMet Jp1 JpC hl
 obtain ⟨v, st', hW, rfl⟩ := Vm.law3 Vm.patGl g1 g2 g3 Vm.pat_hits ⟨0, .nil⟩ cs t (hr _) hm s hs
 obtain ⟨N, hN⟩ := Vm.W_fuel hW rfl
 have hs := Vm.sound mixed W.heap.size (Vm.memo_ok Vm.pat_rules _) N Vm.patGl (.f 3) [.agg cs, .str s] ⟨0, .nil⟩
 have hih : Vm.ihCall (Vm.X Tryz.prog N) Vm.patGl (.f 3) [.agg cs, .str s] ⟨0, .nil⟩ = .val (.bool true) st' := by simp [Vm.ihCall, hN]
 rw [hih] at hs
 refine (hs _ W _ ⟨hg, rfl⟩ (Vm.Inv.empty W) (.cons _ _ _ _ r1 (.cons _ _ _ _ r2 .nil))).mono ?_
 rintro e w' ⟨g', c, rfl, h1, _, h3⟩
 cases h1
 exact ⟨rfl, h3.below⟩
set_option maxRecDepth 100000 in
theorem arg {H : Type} {enc : TypeId × Value → H} {W : World} {base : Nat} {v : Value} {d : DataW H} {p : List MemPlace} (hv : Value.okWide Tryz.prog W .any base 25 v) (h : DataW.Trod enc Tryz.prog W 0 (fun _ => true) true 25 v d p)
  (hb : Vm.bulk d ≤ 1048576) : ∃ (cs : List Vm.V) (t : Vm.Nt), (∀ st, Vm.NR st cs t) ∧ t.mass ≤ 1000000000 ∧ Vm.R (Vm.worldGh W) (.agg cs) v := by
 obtain ⟨cs, rfl, _⟩ := okWide_struct Tryz.underlying25 hv
 obtain ⟨n, h⟩ := h
 obtain ⟨vs, h1, h2, h3⟩ := Vm.shp_of_trod2 Vm.sts_ok n 25 _ _ (by decide) h
 have h4 : Vm.vtots vs ≤ Vm.bulk d := h3
 obtain ⟨t, h5, h6⟩ := Vm.node_of n h2 (by omega)
 exact ⟨vs, t, h5, by omega, .agg _ _ h1⟩
set_option maxRecDepth 100000 in
theorem args {H : Type} {enc : TypeId × Value → H} {W : World} {base : Nat} {v : Value} {d : DataW H} {p : List MemPlace} (hv : Value.okWide Tryz.prog W .any base 9 v) (h : DataW.Trod enc Tryz.prog W 0 (fun _ => true) true 9 v d p)
  (hb : Vm.bulk d ≤ 1048576) : ∃ s : Vm.S, s.n ≤ 1000000000 ∧ Vm.R (Vm.worldGh W) (.str s) v := by
 obtain ⟨b, rfl, _⟩ := open_string Tryz.underlying9 hv h
 obtain ⟨n, h⟩ := h
 obtain ⟨vs, h1, h2, h3⟩ := Vm.shp_of_trod2 Vm.sts_ok n 9 _ _ (by decide) h
 have h4 : Vm.vtots vs ≤ Vm.bulk d := h3
 cases n with
 | zero => exact h2.elim
 | succ n =>
  simp only [Vm.Shp, Tryz.underlying9] at h2
  obtain ⟨s, rfl, _⟩ := h2
  cases h1 with
  | cons _ _ _ _ hr _ =>
   refine ⟨s, ?_, hr⟩
   simp only [Vm.vtots, Vm.vtot] at h4
   omega
set_option maxRecDepth 100000 in
theorem JiF (H : Type) (enc : TypeId × Value → H) (W : World) (base : Nat) (args : Array Value) (ds gs : List (DataW H)) (before : List MemPlace)
  (hval0 : ∀ (j : Nat) t v, Tryz.f3.params[j]? = some t → args[j]? = some v → Value.okWide Tryz.prog W .any base t v)
  (hW : DataW.Whole enc Tryz.prog Tryz.f3.params.toList Rows.spellShowsSpec.vars false W args.toList ds gs before) (hk : Rows.uptoSmall H (ds ++ gs) = true) (hL : laidMetH Tryz.prog laid W) :
  Calls Tryz.prog 3 args W fun e W' => ∃ v, e = .returned v ∧ Rows.spellShowsSpec.post enc Tryz.prog Tryz.f3 false true false false W args v W' := by
 have hval : ∀ (j : Nat) t v, Tryz.f3.params[j]? = some t → args[j]? = some v → Value.okWide Tryz.prog W .any base t v := hval0
 have hW' := hW
 obtain ⟨p, q, hA0, hV, rfl, hfz, hnd⟩ := hW
 have hA : DataW.TrodAll enc Tryz.prog W 0 (fun _ => true) true Tryz.f3.params.toList args.toList ds p := hA0
 rw [Tryz.params3] at hA hval
 obtain ⟨v1, r1, d1, e1, p1, q1, ha1, rfl, rfl, t1, hA1⟩ := trodAll_cons hA
 obtain ⟨v2, r2, d2, e2, p2, q2, ha2, rfl, rfl, t2, hA2⟩ := trodAll_cons hA1
 obtain ⟨h5, rfl, rfl⟩ := trodAll_nil hA2
 subst h5
 obtain ⟨rfl, rfl⟩ := trodVars_none hV
 obtain ⟨args⟩ := args
 simp only at ha1
 subst ha2
 subst ha1
 clear hA0 hval0 hA hA1 hA2
 have hbk : Vm.bulk d1 + (Vm.bulk d2 + 0) ≤ 1048576 := of_decide_eq_true hk
 obtain ⟨cs, t, hr, hm, x1⟩ := arg (hval 0 25 v1 rfl rfl) t1 (by omega)
 obtain ⟨s, hs, x2⟩ := args (hval 1 9 v2 rfl rfl) t2 (by omega)
 have hlt1 : ∀ x ∈ p1, x.block < W.heap.size := fun x hx => by simpa using hW'.lt x (by simp [hx])
 have hlt2 : ∀ x ∈ p2, x.block < W.heap.size := fun x hx => by simpa using hW'.lt x (by simp [hx])
 refine (JpD W v1 v2 cs t s hr hm hs x1 x2 hL).mono fun e W' ⟨he, hg⟩ => ?_
 subst he
 have lo : laidOutB Tryz.prog = true := by kernel_rfl
 exact ⟨_, rfl, _, _, _, [], _, [], hW', (trodAll_cons_mk (shut_bool Tryz.underlying4 _) trodAll_mk0),
  trodAll_cons_mk (Below.trod lo (by kernel_rfl) (of_decide_eq_true (by kernel_rfl)) t1 hg hlt1) (trodAll_cons_mk (Below.trod lo (by kernel_rfl) (of_decide_eq_true (by kernel_rfl)) t2 hg hlt2) trodAll_mk0),
  rfl, hg.frame _, fun h => by cases h⟩
abbrev wit : Value := .agg #[.int .u8 0, .string ⟨#[]⟩, .slice none 0 0, .slice none 0 0]
abbrev Jp2 {H : Type} : DataW H := .agg [.lit (.int .u8 0), .lit (.string []), .nil, .nil]
theorem Jow (os : Os) {H : Type} (enc : TypeId × Value → H) : ∃ places, DataW.whole enc Tryz.prog ((World.laidAll Tryz.prog os laid).forCall (fun _ _ => 0) ⟨#[], #[wit, .string ⟨#[]⟩], []⟩).memory Tryz.f3.params.toList Rows.spellShowsSpec.vars false #[wit, .string ⟨#[]⟩].toList 8 = some ([Jp2, .lit (.string [])], [], places) :=
 ⟨[], by kernel_rfl⟩
set_option maxRecDepth 100000 in
theorem JoR (os : Os) (started : os.Started) (H : Type) (enc : TypeId × Value → H) (F : Stop.Interp) :
  ReturnsInHanded {} Tryz.checked os 3 .any ((Rows.OpenSpec.upto Rows.spellShowsSpec).preRow enc Tryz.prog Tryz.f3 Rows.spellShowsUptoRow.domain false Rows.spellShowsUptoRow.laid) (((Rows.OpenSpec.upto Rows.spellShowsSpec).at F).post enc Tryz.prog Tryz.f3 false true false false) := by
 obtain ⟨places, hx⟩ := Jow os enc
 refine returnsInHanded_of_row (C := Tryz.checked) (s := Rows.OpenSpec.upto Rows.spellShowsSpec) own started (by kernel_rfl) Tryz.func3
  (witness_row_at (enc := enc) (C := Tryz.checked) false (World.laidAll Tryz.prog os laid) #[wit, .string ⟨#[]⟩] (World.laidAll_os _ _ _) (by kernel_rfl) (by kernel_rfl) (by kernel_rfl)
   (OpenSpec.preRow_of_cond 8 hx (by kernel_rfl) (fun k hk => by cases hk; kernel_rfl) (by kernel_rfl) (laidMet_laidAll _ (by kernel_rfl) (by kernel_rfl)))) ?_
 intro W base args ds gs before hval hW _ hk _ hL _ _
 exact JiF H enc W base args ds gs before hval hW (hk _ rfl) hL
theorem over : Rows.spellShowsUptoRow.holds Tryz.pinned (Rows.OpenSpec.upto Rows.spellShowsSpec) :=
 OpenClaim.holds_of_cond 3 Tryz.f3 rfl rfl rfl rfl rfl rfl rfl ⟨rfl, rfl, rfl, rfl, rfl⟩ rfl rfl rfl rfl rfl (by kernel_rfl) Tryz.func3 (by kernel_rfl)
  (of_decide_eq_true (by kernel_rfl)) (by unfold Func.isWrapper; first | (rw [if_pos (by decide +kernel)]; kernel_rfl) | (rw [if_neg (by decide +kernel)]; exact ⟨rfl, rfl⟩))
  (fun os started H enc _ F => by rw [OpenClaim.pre_eq_preRow]; exact JoR os started H enc F)
theorem plain (f : FuncId) (fn : Func) (hf : Tryz.pinned.checked.prog.funcNamed "touchstone/touchstonelaw08.SpellShows" = some f) (hfn : Tryz.pinned.checked.prog.funcs[f]? = some fn) :
  true = Tryz.pinned.checked.prog.looks [] ∧ ∀ (j : Nat) t, fn.params[j]? = some t → Tryz.pinned.checked.prog.wantsStandIn t = false := by
 obtain rfl : f = 3 := Option.some.inj ((show Tryz.prog.funcNamed "touchstone/touchstonelaw08.SpellShows" = some 3 by kernel_rfl).symm.trans hf) |>.symm
 obtain rfl : fn = Tryz.f3 := (Option.some.inj (Tryz.func3.symm.trans hfn)).symm
 refine ⟨by kernel_rfl, fun j t ht => ?_⟩
 rw [Tryz.params3] at ht
 have : t = 25 ∨ t = 9 := by simpa using Array.mem_of_getElem? ht
 rcases this with rfl | rfl
 ·exact (show Tryz.prog.wantsStandIn 25 = false by kernel_rfl)
 ·exact (show Tryz.prog.wantsStandIn 9 = false by kernel_rfl)
theorem proved : Rows.SpellShowsUptoCardSaid :=
 Claim7.holds_tied_plain_at .later [] _ _ _ _ over (fun _ h => by cases h) (by kernel_rfl) (fun _ h => by cases h) spellShowsUpto_row_tie rfl ⟨rfl, rfl⟩ (by kernel_rfl) rfl plain (by kernel_rfl)
end Go.Proofs.YtphinjijaglokaaGreatDoor.spellShowsUpto
