/-
  DERIVED. GIVEN WITH THE SEED: THE CARDS: each row of YtiijjopdhjpalaaDoorRows.lean that lists a variable, with what it lists TIED to the program's text (the seventh form; the later family's looks); each row that meets fmt, with fmt's text TOLD by the authors' own Lean function (tested against real Go, not proved from fmt's source: count such statements apart). THE CARD IS WHAT COUNTS. Prove the row's statement (the work); the ties are given (YtiijjopdhjpalaaDoorTie.lean); close each card by the builder's one call (the guide's Derived/Test/ToyasCard.lean, 'card_holds'). Laid BY PROGRAM, IN A SANDBOX (cutbox-door.mjs). By AI agents, Wed Nov 11 2026. No macro, syntax, notation, axiom, sorry.
-/
import Derived.Test.YtiijjopdhjpalaaDoorRows
import GoSem.ClaimSeven
namespace Go.Proofs.YtiijjopdhjpalaaDoor
namespace Rows

/-- THE TIED CARD OF 'tidewaylaw10.ImageRights'. -/
def imageRightsCard : Claim7 := { stood := { row := imageRightsRow, standIns := [], harness := (true, "652a5eeae77635ab699cc65da7c4b1b63c97a95569c1474093e0914700766cdf"), looks := true }, kinds := [], alts := [], laidByText := true, laidKinds := [.handle], laidTests := true, laidLooks := .later }
def ImageRightsCardSaid : Prop := Claim7.holds Tryd.pinned (.plain (OpenSpec.ofChange imageRightsSpec)) imageRightsCard

/-- THE TIED CARD OF 'tidewaylaw10.ImageBack'. -/
def imageBackCard : Claim7 := { stood := { row := imageBackRow, standIns := [], harness := (true, "652a5eeae77635ab699cc65da7c4b1b63c97a95569c1474093e0914700766cdf"), looks := true }, kinds := [], alts := [], laidByText := true, laidKinds := [.handle], laidTests := true, laidLooks := .later }
def ImageBackCardSaid : Prop := Claim7.holds Tryd.pinned (.plain (OpenSpec.ofChange imageBackSpec)) imageBackCard

/-- THE TIED CARD OF 'tidewaylaw10.ImageOne'. -/
def imageOneCard : Claim7 := { stood := { row := imageOneRow, standIns := [], harness := (true, "652a5eeae77635ab699cc65da7c4b1b63c97a95569c1474093e0914700766cdf"), looks := true }, kinds := [], alts := [], laidByText := true, laidKinds := [.handle], laidTests := true, laidLooks := .later }
def ImageOneCardSaid : Prop := Claim7.holds Tryd.pinned (.plain (OpenSpec.ofChange imageOneSpec)) imageOneCard

/-- THE TIED CARD OF 'tidewaylaw10.ImageUnlike'. -/
def imageUnlikeCard : Claim7 := { stood := { row := imageUnlikeRow, standIns := [], harness := (true, "652a5eeae77635ab699cc65da7c4b1b63c97a95569c1474093e0914700766cdf"), looks := true }, kinds := [], alts := [], laidByText := true, laidKinds := [.handle], laidTests := true, laidLooks := .later }
def ImageUnlikeCardSaid : Prop := Claim7.holds Tryd.pinned (.plain (OpenSpec.ofChange imageUnlikeSpec)) imageUnlikeCard

/-- THE TIED CARD OF 'tidewaylaw10.ImageFront'. -/
def imageFrontCard : Claim7 := { stood := { row := imageFrontRow, standIns := [], harness := (true, "652a5eeae77635ab699cc65da7c4b1b63c97a95569c1474093e0914700766cdf"), looks := true }, kinds := [], alts := [], laidByText := true, laidKinds := [.handle], laidTests := true, laidLooks := .later }
def ImageFrontCardSaid : Prop := Claim7.holds Tryd.pinned (.plain (OpenSpec.ofChange imageFrontSpec)) imageFrontCard

/-- THE TIED CARD OF 'tidewaylaw10.ImageCounts'. -/
def imageCountsCard : Claim7 := { stood := { row := imageCountsRow, standIns := [], harness := (true, "652a5eeae77635ab699cc65da7c4b1b63c97a95569c1474093e0914700766cdf"), looks := true }, kinds := [], alts := [], laidByText := true, laidKinds := [.handle], laidTests := true, laidLooks := .later }
def ImageCountsCardSaid : Prop := Claim7.holds Tryd.pinned (.plain (OpenSpec.ofChange imageCountsSpec)) imageCountsCard

/-- THE SECOND FORM's CARD OF 'tidewaylaw10.ImageRights'. -/
def imageRightsUptoCard : Claim7 := { stood := { row := imageRightsUptoRow, standIns := [], harness := (true, "652a5eeae77635ab699cc65da7c4b1b63c97a95569c1474093e0914700766cdf"), looks := true }, kinds := [], alts := [], laidByText := true, laidKinds := [.handle], laidTests := true, laidLooks := .later }
def ImageRightsUptoCardSaid : Prop := Claim7.holds Tryd.pinned (.plain (OpenSpec.upto imageRightsSpec)) imageRightsUptoCard

/-- THE SECOND FORM's CARD OF 'tidewaylaw10.ImageBack'. -/
def imageBackUptoCard : Claim7 := { stood := { row := imageBackUptoRow, standIns := [], harness := (true, "652a5eeae77635ab699cc65da7c4b1b63c97a95569c1474093e0914700766cdf"), looks := true }, kinds := [], alts := [], laidByText := true, laidKinds := [.handle], laidTests := true, laidLooks := .later }
def ImageBackUptoCardSaid : Prop := Claim7.holds Tryd.pinned (.plain (OpenSpec.upto imageBackSpec)) imageBackUptoCard

/-- THE SECOND FORM's CARD OF 'tidewaylaw10.ImageOne'. -/
def imageOneUptoCard : Claim7 := { stood := { row := imageOneUptoRow, standIns := [], harness := (true, "652a5eeae77635ab699cc65da7c4b1b63c97a95569c1474093e0914700766cdf"), looks := true }, kinds := [], alts := [], laidByText := true, laidKinds := [.handle], laidTests := true, laidLooks := .later }
def ImageOneUptoCardSaid : Prop := Claim7.holds Tryd.pinned (.plain (OpenSpec.upto imageOneSpec)) imageOneUptoCard

/-- THE SECOND FORM's CARD OF 'tidewaylaw10.ImageUnlike'. -/
def imageUnlikeUptoCard : Claim7 := { stood := { row := imageUnlikeUptoRow, standIns := [], harness := (true, "652a5eeae77635ab699cc65da7c4b1b63c97a95569c1474093e0914700766cdf"), looks := true }, kinds := [], alts := [], laidByText := true, laidKinds := [.handle], laidTests := true, laidLooks := .later }
def ImageUnlikeUptoCardSaid : Prop := Claim7.holds Tryd.pinned (.plain (OpenSpec.upto imageUnlikeSpec)) imageUnlikeUptoCard

/-- THE SECOND FORM's CARD OF 'tidewaylaw10.ImageFront'. -/
def imageFrontUptoCard : Claim7 := { stood := { row := imageFrontUptoRow, standIns := [], harness := (true, "652a5eeae77635ab699cc65da7c4b1b63c97a95569c1474093e0914700766cdf"), looks := true }, kinds := [], alts := [], laidByText := true, laidKinds := [.handle], laidTests := true, laidLooks := .later }
def ImageFrontUptoCardSaid : Prop := Claim7.holds Tryd.pinned (.plain (OpenSpec.upto imageFrontSpec)) imageFrontUptoCard

/-- THE SECOND FORM's CARD OF 'tidewaylaw10.ImageCounts'. -/
def imageCountsUptoCard : Claim7 := { stood := { row := imageCountsUptoRow, standIns := [], harness := (true, "652a5eeae77635ab699cc65da7c4b1b63c97a95569c1474093e0914700766cdf"), looks := true }, kinds := [], alts := [], laidByText := true, laidKinds := [.handle], laidTests := true, laidLooks := .later }
def ImageCountsUptoCardSaid : Prop := Claim7.holds Tryd.pinned (.plain (OpenSpec.upto imageCountsSpec)) imageCountsUptoCard
end Rows
end Go.Proofs.YtiijjopdhjpalaaDoor
