/- The law PatLines holds, its tied card: its call returns true, whatever facts it is handed, on every tape, the listed package-level variables being as the program's text lays them; nothing that was there is changed. No condition. -/
import Derived.Test.YtidnmhdlfofinaaGreatDoorRows
import Derived.WalkKit
import Derived.ProofKit
import Derived.OpenShut
import Derived.Carry
import Derived.ChangeMaps5
import Derived.SliceStrings
import Derived.LaidMore
import Derived.Lay
import Derived.Stop.Joined
import Derived.SevenTiedAt
import Derived.Test.YtidnmhdlfofinaaGreatDoorTie
import Derived.Test.YtidnmhdlfofinaaGreatDoorCards
import Derived.Test.YtidnmhdlfofinaaGreatDoorPzA
import Derived.Test.YtidnmhdlfofinaaGreatDoorPzC
namespace Go.Proofs.YtidnmhdlfofinaaGreatDoor.patLines
open Go Go.ChangeShapes Go.WideShapes Go.ChangeAt Go.RowKit Go.ChangeMaps
theorem own : ownKnob Tryz.prog.godebug = none := by kernel_rfl
theorem mixed : Tryz.prog.follows .mixedOrders = true := by kernel_rfl
theorem errs : ∀ tp, (none : Option TypeId) = some tp → ∀ u, Tryz.prog.typeName? 3 u = some "*errors.errorString" → u = tp := fun tp h => by cases h
abbrev laid : List (String × DataW Unit) := [("math/bits.deBruijn32tab", Rows.laid_math_bits_deBruijn32tab), ("math/bits.deBruijn64tab", Rows.laid_math_bits_deBruijn64tab), ("internal/strconv.uint64pow10", Rows.laid_internal_strconv_uint64pow10), ("touchstone/pat.words", Rows.laid_touchstone_pat_words)]
abbrev use : List String := ["touchstone/pat.words"]
theorem gl_ok : Vm.glOf Tryz.prog none laid use = some Vm.patGl := by kernel_rfl
set_option maxRecDepth 100000 in
theorem arg {H : Type} {enc : TypeId × Value → H} {W : World} {base : Nat} {t e : TypeId} (hu : Tryz.prog.underlying t = some (.slice e)) (ht : t ∈ Vm.pTs) (hag : Vm.isAggT Tryz.prog t = some false) {v : Value} {d : DataW H} {p : List MemPlace} (hv : Value.okWide Tryz.prog W .any base t v) (h : DataW.Trod enc Tryz.prog W 0 (fun _ => true) true t v d p) :
    ∃ n x, Vm.Shp Tryz.prog n t [x] ∧ Vm.R (Vm.worldGh W) x v := by
  obtain ⟨a, len, cap, rfl⟩ := okWide_slice hu hv
  obtain ⟨n, vs, x, h1, h2, h3⟩ := Vm.arg_of_trod Vm.pts_ok ht h (fun h => by rw [hag] at h; cases h) (fun _ cs h => by cases h)
  rcases h3 with ⟨h4, _⟩ | ⟨_, rfl⟩
  · rw [hag] at h4; cases h4
  · exact ⟨n, x, h1, h2⟩
theorem walk (W : World) (v1 v2 : Value) (x1 x2 : Vm.V) (l1 : List Vm.Fw) (h1 : Vm.Row Vm.Fw.cells x1 l1) (ok1 : ∀ f ∈ l1, f.ok) (l2 : List Vm.Fw) (h2 : Vm.Row Vm.Fw.cells x2 l2) (ok2 : ∀ f ∈ l2, f.ok) (r1 : Vm.R (Vm.worldGh W) x1 v1) (r2 : Vm.R (Vm.worldGh W) x2 v2) (hl : laidMetH Tryz.prog laid W) :
    Calls Tryz.prog 6 ⟨[v1, v2]⟩ W fun e w' => e = .returned (.bool true) ∧ Below W.heap.size W w' := by
  letI : Vm.Memo := Vm.patMemo
  letI : Vm.NY := Vm.pat_ny
  letI : Vm.NZ := Vm.pat_nz
  letI : Vm.NO := Vm.pat_no
  letI : Vm.NA := Vm.pat_na
  rw [MakeChecks.laidMetH_plain _ _ _ (by kernel_rfl)] at hl
  have hg := Vm.GlV_of_laidMet errs gl_ok hl
  obtain ⟨v, st', hW, rfl⟩ := Vm.law6 Vm.patGl Vm.pat_hits Vm.patGl_get ⟨0, .nil⟩ x1 x2 l1 l2 h1 h2 ok1 ok2
  obtain ⟨N, hN⟩ := Vm.W_fuel hW rfl
  have hs := Vm.sound mixed W.heap.size (Vm.memo_ok Vm.pat_rules _) N Vm.patGl (.f 6) [x1, x2] ⟨0, .nil⟩
  have hih : Vm.ihCall (Vm.X Tryz.prog N) Vm.patGl (.f 6) [x1, x2] ⟨0, .nil⟩ = .val (.bool true) st' := by simp [Vm.ihCall, hN]
  rw [hih] at hs
  refine (hs _ W _ ⟨hg, rfl⟩ (Vm.Inv.empty W) (.cons _ _ _ _ r1 (.cons _ _ _ _ r2 .nil))).mono ?_
  rintro e w' ⟨g', c, rfl, h1, _, h3⟩
  cases h1
  exact ⟨rfl, h3.below⟩
set_option maxRecDepth 100000 in
theorem lifted (os : Os) (started : os.Started) (H : Type) (enc : TypeId × Value → H) :
    ReturnsInHanded {} Tryz.checked os 6 .any (fun w args => (Rows.patLinesSpec.pre enc Tryz.prog Tryz.f6 [] false w args ∧ laidMetH Tryz.prog laid w) ∧ sizedMet enc Tryz.prog Tryz.f6 (OpenSpec.ofChange Rows.patLinesSpec) false w args)
      (Rows.patLinesSpec.post enc Tryz.prog Tryz.f6 false true false false) := by
  refine returnsInHanded_of_change_and (C := Tryz.checked) (X := fun w _ => laidMetH Tryz.prog laid w) (fun _ _ _ hh h => h.of_heap hh) own started (by kernel_rfl) Tryz.func6
    (ChangeSpec.witness_shaped (enc := enc) (C := Tryz.checked) (os := os) (X := fun w _ => laidMetH Tryz.prog laid w) false (World.laidAll Tryz.prog os laid) #[.slice none 0 0, .slice none 0 0] 8 (World.laidAll_os _ _ _) (World.shaped_of_ZipB (by kernel_rfl) (by kernel_rfl)) (by kernel_rfl) (by kernel_rfl) (by kernel_rfl)
      (by rw [MakeChecks.laidMetH_plain _ _ _ (by kernel_rfl)]; exact laidMet_laidAll _ (by kernel_rfl) (by kernel_rfl))) ?_
  intro W base args ds gs before hval0 hW _ _ hL _
  have hval : ∀ (j : Nat) t v, Tryz.f6.params[j]? = some t → args[j]? = some v → Value.okWide Tryz.prog W .any base t v := hval0
  have hW' := hW
  obtain ⟨p, q, hA0, hV, rfl, hfz, hnd⟩ := hW
  have hA : DataW.TrodAll enc Tryz.prog W 0 (fun _ => true) true Tryz.f6.params.toList args.toList ds p := hA0
  rw [Tryz.params6] at hA hval
  obtain ⟨v1, r1, d1, e1, p1, q1, ha1, rfl, rfl, t1, hA1⟩ := trodAll_cons hA
  obtain ⟨v2, r2, d2, e2, p2, q2, rfl, rfl, rfl, t2, hA2⟩ := trodAll_cons hA1
  obtain ⟨h5, rfl, rfl⟩ := trodAll_nil hA2
  subst h5
  obtain ⟨rfl, rfl⟩ := trodVars_none hV
  obtain ⟨args⟩ := args
  simp only at ha1
  subst ha1
  clear hA0 hval0 hA hA1 hA2
  have k1 := t1
  have k2 := t2
  obtain ⟨m1, x1, s1, r1⟩ := arg Tryz.underlying22 (by decide) (by kernel_rfl) (hval 0 22 v1 rfl rfl) t1
  obtain ⟨x, l1, hxe, h1, ok1⟩ := Vm.facts_of s1
  obtain rfl : x1 = x := by simpa using hxe
  have hlt1 : ∀ x ∈ p1, x.block < W.heap.size := fun x hx => by simpa using hW'.lt x (by simp [hx])
  obtain ⟨m2, x2, s2, r2⟩ := arg Tryz.underlying22 (by decide) (by kernel_rfl) (hval 1 22 v2 rfl rfl) t2
  obtain ⟨x, l2, hxe, h2, ok2⟩ := Vm.facts_of s2
  obtain rfl : x2 = x := by simpa using hxe
  have hlt2 : ∀ x ∈ p2, x.block < W.heap.size := fun x hx => by simpa using hW'.lt x (by simp [hx])
  refine (walk W v1 v2 x1 x2 l1 h1 ok1 l2 h2 ok2 r1 r2 hL).mono fun e W' ⟨he, hg⟩ => ?_
  subst he
  have lo : laidOutB Tryz.prog = true := by kernel_rfl
  exact ⟨_, rfl, _, _, _, [], _, [], hW', (trodAll_cons_mk (shut_bool Tryz.underlying4 _) trodAll_mk0),
    (trodAll_cons_mk (Below.trod lo (by kernel_rfl) (of_decide_eq_true (by kernel_rfl)) k1 hg hlt1) (trodAll_cons_mk (Below.trod lo (by kernel_rfl) (of_decide_eq_true (by kernel_rfl)) k2 hg hlt2) trodAll_mk0)),
    rfl, hg.frame _, fun h => by cases h⟩
theorem over : Rows.patLinesRow.holds Tryz.pinned (OpenSpec.ofChange Rows.patLinesSpec) :=
  OpenClaim.holds_of_wide 6 Tryz.f6 rfl rfl rfl rfl rfl rfl rfl ⟨rfl, rfl, rfl, rfl, rfl⟩ rfl rfl rfl rfl rfl (by kernel_rfl) Tryz.func6 (by kernel_rfl)
    (of_decide_eq_true (by kernel_rfl)) (by unfold Func.isWrapper; first | (rw [if_pos (by decide +kernel)]; kernel_rfl) | (rw [if_neg (by decide +kernel)]; exact ⟨rfl, rfl⟩))
    (fun os started H enc _ => lifted os started H enc)
theorem proved : Rows.PatLinesCardSaid :=
  Claim7.holds_tied_plain_at .later [] [.data, .data, .data, .data] true (true, "f315a93aa38216490695634eeb5aaeb3dd61654a8ae130de35fc04a9afa9e474") true
    over (fun _ h => by cases h) (by kernel_rfl) (fun _ h => by cases h) patLines_row_tie rfl ⟨rfl, rfl⟩ (by kernel_rfl) rfl
    (fun f fn hf hfn => by
      obtain rfl : f = 6 := Option.some.inj ((show Tryz.prog.funcNamed "touchstone/touchstonelaw20.PatLines" = some 6 by kernel_rfl).symm.trans hf) |>.symm
      obtain rfl : fn = Tryz.f6 := (Option.some.inj (Tryz.func6.symm.trans hfn)).symm
      exact ⟨by kernel_rfl, fun j t ht => by
        rw [Tryz.params6] at ht
        have h9 : t = 22 := by
          cases j with
          | zero => exact by simpa using ht.symm
          | succ j =>
            cases j with
            | zero => exact by simpa using ht.symm
            | succ j =>
              simp at ht
        rcases h9 with rfl
        · have hw : Tryz.prog.wantsStandIn 22 = false := by kernel_rfl
          exact hw⟩)
    (by kernel_rfl)
end Go.Proofs.YtidnmhdlfofinaaGreatDoor.patLines
