/- Whatever is handed to tidewaylaw10.ImageOne, it answers true, and its arguments read as they did. Conditions: the package variable errors.errorType starts as the program's text lays it (the card ties it). -/
import Derived.Test.YtiijjopdhjpalaaDoorMj
import Derived.Test.YtiijjopdhjpalaaDoorMp
import Derived.Test.YtiijjopdhjpalaaDoorTie
import Derived.Test.YtiijjopdhjpalaaDoorCards
/-! Whatever is handed to tidewaylaw10.ImageOne, it answers true, and its arguments read as they did. Conditions: the package variable errors.errorType starts as the program's text lays it (the card ties it). -/
namespace Go.Proofs.YtiijjopdhjpalaaDoor
open Go Go.ChangeShapes Go.WideShapes Go.RowKit
set_option linter.unusedVariables false
theorem imageOne_trees : ∀ xs, ArgsOf Tryd.prog Tryd.f5.params.toList xs → ∃ m', callsN cfg 61 5 xs .empty = some (.ret (.bool true), m') := by
  intro xs h
  rw [Tryd.params5] at h
  cases h with
  | cons a0 h =>
    cases h
    obtain ⟨v0, rfl, w0⟩ := arg_bytes a0
    exact law_ImageOne v0 w0
set_option maxRecDepth 100000 in
theorem imageOne_lifted (os : Os) (started : os.Started) (H : Type) (enc : TypeId × Value → H) :
    ReturnsInHanded {} Tryd.checked os 5 .any (fun w args => (Rows.imageOneSpec.pre enc Tryd.prog Tryd.f5 [] false w args ∧ laidMetH Tryd.prog [("errors.errorType", Rows.laid_errors_errorType)] w) ∧ sizedMet enc Tryd.prog Tryd.f5 (OpenSpec.ofChange Rows.imageOneSpec) false w args)
      (Rows.imageOneSpec.post enc Tryd.prog Tryd.f5 false true false false) := by
  refine returnsInHanded_of_change_and (C := Tryd.checked) (X := fun w _ => laidMetH Tryd.prog [("errors.errorType", Rows.laid_errors_errorType)] w) (fun _ _ _ hh h => h.of_heap hh) fin_own started (by kernel_rfl) Tryd.func5
    (ChangeSpec.witness_at (enc := enc) (C := Tryd.checked) (os := os) (X := fun w _ => laidMetH Tryd.prog [("errors.errorType", Rows.laid_errors_errorType)] w) false (laidWorld os) #[.slice none 0 0] 8 rfl (by kernel_rfl) (by kernel_rfl) (by kernel_rfl) (by kernel_rfl) (by kernel_rfl) (laidWorld_met os _)) ?_
  intro W base args ds gs before hval hW _ hw hL _
  exact law_lift (P := Tryd.prog) (tb := 4) (n := 61) Tryd.func5 (by kernel_rfl) (by kernel_rfl) (by kernel_rfl) Tryd.underlying4 all_ok rfl (by kernel_rfl) (by kernel_rfl) (by kernel_rfl)
    (fun H ds h => by
      rw [Tryd.params5] at h
      match ds, h with
      | [d0], _ => exact ⟨rfl, rfl, rfl⟩) imageOne_trees hval hW hw (glob_of_laid hL)
theorem imageOne_holds : Rows.ImageOneSaid :=
  OpenClaim.holds_of_wide 5 Tryd.f5 rfl rfl rfl rfl rfl rfl rfl ⟨rfl, rfl, rfl, rfl, rfl⟩ rfl rfl rfl rfl rfl (by kernel_rfl) Tryd.func5 (by kernel_rfl)
    (of_decide_eq_true (by kernel_rfl)) (by unfold Func.isWrapper; rw [if_neg (of_decide_eq_false (by kernel_rfl))]; exact ⟨rfl, rfl⟩)
    (fun os started H enc _ => imageOne_lifted os started H enc)
theorem imageOne_card : Rows.ImageOneCardSaid :=
  Claim7.holds_tied_plain_at .later [] [.handle] true (true, "652a5eeae77635ab699cc65da7c4b1b63c97a95569c1474093e0914700766cdf") true
    imageOne_holds (fun _ h => by cases h) (by kernel_rfl) (fun _ h => by cases h) imageOne_row_tie rfl ⟨rfl, rfl⟩ (by kernel_rfl) rfl
    (fun f fn hf hfn => by
      obtain rfl : f = 5 := Option.some.inj ((show Tryd.prog.funcNamed "tideway/tidewaylaw10.ImageOne" = some 5 by kernel_rfl).symm.trans hf) |>.symm
      obtain rfl : fn = Tryd.f5 := (Option.some.inj (Tryd.func5.symm.trans hfn)).symm
      exact ⟨by kernel_rfl, fun j t ht => by
        rw [Tryd.params5] at ht
        have h3 : t = 28 := by
          rcases j with _ | j
          · have e : 28 = t := Option.some.inj ht
            exact e.symm
          · simp at ht
        rcases h3 with rfl
        · exact (show Tryd.prog.wantsStandIn 28 = false by kernel_rfl)⟩)
    (by kernel_rfl)
#print axioms imageOne_card
end Go.Proofs.YtiijjopdhjpalaaDoor
