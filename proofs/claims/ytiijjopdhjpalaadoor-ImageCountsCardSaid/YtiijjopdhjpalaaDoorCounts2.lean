/- Whatever is handed to tidewaylaw10.ImageCounts, it answers true, and its arguments read as they did. Conditions: the package variable errors.errorType starts as the program's text lays it (the card ties it). -/
import Derived.Test.YtiijjopdhjpalaaDoorMj
import Derived.Test.YtiijjopdhjpalaaDoorMp
import Derived.Test.YtiijjopdhjpalaaDoorMq
import Derived.Test.YtiijjopdhjpalaaDoorTie
import Derived.Test.YtiijjopdhjpalaaDoorCards
/-! Whatever is handed to tidewaylaw10.ImageCounts, it answers true, and its arguments read as they did. Conditions: the package variable errors.errorType starts as the program's text lays it (the card ties it). -/
namespace Go.Proofs.YtiijjopdhjpalaaDoor
open Go Go.ChangeShapes Go.WideShapes Go.RowKit
set_option linter.unusedVariables false
theorem imageCounts_trees : ∀ xs, ArgsOf Tryd.prog Tryd.f8.params.toList xs → ∃ m', callsN cfg 61 8 xs .empty = some (.ret (.bool true), m') := by
  intro xs h
  rw [Tryd.params8] at h
  cases h with
  | cons a0 h =>
    cases h with
    | cons a1 h =>
      cases h
      obtain ⟨v0, rfl, w0⟩ := arg_int a0
      obtain ⟨v1, rfl, w1⟩ := arg_int a1
      exact law_ImageCounts v0 v1 w0 w1
set_option maxRecDepth 100000 in
theorem imageCounts_lifted (os : Os) (started : os.Started) (H : Type) (enc : TypeId × Value → H) :
    ReturnsInHanded {} Tryd.checked os 8 .any (fun w args => (Rows.imageCountsSpec.pre enc Tryd.prog Tryd.f8 [] false w args ∧ laidMetH Tryd.prog [("errors.errorType", Rows.laid_errors_errorType)] w) ∧ sizedMet enc Tryd.prog Tryd.f8 (OpenSpec.ofChange Rows.imageCountsSpec) false w args)
      (Rows.imageCountsSpec.post enc Tryd.prog Tryd.f8 false true false false) := by
  refine returnsInHanded_of_change_and (C := Tryd.checked) (X := fun w _ => laidMetH Tryd.prog [("errors.errorType", Rows.laid_errors_errorType)] w) (fun _ _ _ hh h => h.of_heap hh) fin_own started (by kernel_rfl) Tryd.func8
    (ChangeSpec.witness_at (enc := enc) (C := Tryd.checked) (os := os) (X := fun w _ => laidMetH Tryd.prog [("errors.errorType", Rows.laid_errors_errorType)] w) false (laidWorld os) #[.int .i64 0, .int .i64 0] 8 rfl (by kernel_rfl) (by kernel_rfl) (by kernel_rfl) (by kernel_rfl) (by kernel_rfl) (laidWorld_met os _)) ?_
  intro W base args ds gs before hval hW _ hw hL _
  exact law_lift (P := Tryd.prog) (tb := 4) (n := 61) Tryd.func8 (by kernel_rfl) (by kernel_rfl) (by kernel_rfl) Tryd.underlying4 all_ok rfl (by kernel_rfl) (by kernel_rfl) (by kernel_rfl)
    (fun H ds h => by
      rw [Tryd.params8] at h
      match ds, h with
      | [d0, d1], _ => exact ⟨rfl, rfl, rfl⟩) imageCounts_trees hval hW hw (glob_of_laid hL)
theorem imageCounts_holds : Rows.ImageCountsSaid :=
  OpenClaim.holds_of_wide 8 Tryd.f8 rfl rfl rfl rfl rfl rfl rfl ⟨rfl, rfl, rfl, rfl, rfl⟩ rfl rfl rfl rfl rfl (by kernel_rfl) Tryd.func8 (by kernel_rfl)
    (of_decide_eq_true (by kernel_rfl)) (by unfold Func.isWrapper; rw [if_neg (of_decide_eq_false (by kernel_rfl))]; exact ⟨rfl, rfl⟩)
    (fun os started H enc _ => imageCounts_lifted os started H enc)
theorem imageCounts_card : Rows.ImageCountsCardSaid :=
  Claim7.holds_tied_plain_at .later [] [.handle] true (true, "652a5eeae77635ab699cc65da7c4b1b63c97a95569c1474093e0914700766cdf") true
    imageCounts_holds (fun _ h => by cases h) (by kernel_rfl) (fun _ h => by cases h) imageCounts_row_tie rfl ⟨rfl, rfl⟩ (by kernel_rfl) rfl
    (fun f fn hf hfn => by
      obtain rfl : f = 8 := Option.some.inj ((show Tryd.prog.funcNamed "tideway/tidewaylaw10.ImageCounts" = some 8 by kernel_rfl).symm.trans hf) |>.symm
      obtain rfl : fn = Tryd.f8 := (Option.some.inj (Tryd.func8.symm.trans hfn)).symm
      exact ⟨by kernel_rfl, fun j t ht => by
        rw [Tryd.params8] at ht
        have h3 : t = 3 := by
          rcases j with _ | j
          · have e : 3 = t := Option.some.inj ht
            exact e.symm
          rcases j with _ | j
          · have e : 3 = t := Option.some.inj ht
            exact e.symm
          · simp at ht
        rcases h3 with rfl
        · exact (show Tryd.prog.wantsStandIn 3 = false by kernel_rfl)⟩)
    (by kernel_rfl)
#print axioms imageCounts_card
end Go.Proofs.YtiijjopdhjpalaaDoor
