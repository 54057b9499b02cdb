/-
  DERIVED. GIVEN WITH THE SEED: THE CARDS: each row of YtoeijgbjgbgelaaDoorRows.lean that lists a variable, with what it lists TIED to the program's text (the seventh form; the later family's looks); each row that meets fmt, with fmt's text TOLD by the authors' own Lean function (tested against real Go, not proved from fmt's source: count such statements apart). THE CARD IS WHAT COUNTS. Prove the row's statement (the work); the ties are given (YtoeijgbjgbgelaaDoorTie.lean); close each card by the builder's one call (the guide's Derived/Test/ToyasCard.lean, 'card_holds'). Laid BY PROGRAM, IN A SANDBOX (cutbox-door.mjs). By AI agents, Wed Nov 11 2026. No macro, syntax, notation, axiom, sorry.
-/
import Derived.Test.YtoeijgbjgbgelaaDoorRows
import GoSem.ClaimSeven
namespace Go.Proofs.YtoeijgbjgbgelaaDoor
namespace Rows

/-- THE TIED CARD OF 'fairleadlaw9.ChapHashes'. -/
def chapHashesCard : Claim7 := { stood := { row := chapHashesRow, standIns := [], harness := (true, "d848b456771465d59b552508a8352eea4c3a926b5b77aaadab633f6ba219e0b5"), looks := true }, kinds := [], alts := [], laidByText := true, laidKinds := [.data, .handle, .pinned], laidTests := true, laidLooks := .later }
def ChapHashesCardSaid : Prop := Claim7.holds Tryd.pinned (.plain (OpenSpec.ofChange chapHashesSpec)) chapHashesCard

/-- THE TIED CARD OF 'fairleadlaw9.ChapUnits'. -/
def chapUnitsCard : Claim7 := { stood := { row := chapUnitsRow, standIns := [], harness := (true, "d848b456771465d59b552508a8352eea4c3a926b5b77aaadab633f6ba219e0b5"), looks := true }, kinds := [], alts := [], laidByText := true, laidKinds := [.data, .handle, .pinned], laidTests := true, laidLooks := .later }
def ChapUnitsCardSaid : Prop := Claim7.holds Tryd.pinned (.plain (OpenSpec.ofChange chapUnitsSpec)) chapUnitsCard

/-- THE TIED CARD OF 'fairleadlaw9.ChapParts'. -/
def chapPartsCard : Claim7 := { stood := { row := chapPartsRow, standIns := [], harness := (true, "d848b456771465d59b552508a8352eea4c3a926b5b77aaadab633f6ba219e0b5"), looks := true }, kinds := [], alts := [], laidByText := true, laidKinds := [.data, .handle, .pinned], laidTests := true, laidLooks := .later }
def ChapPartsCardSaid : Prop := Claim7.holds Tryd.pinned (.plain (OpenSpec.ofChange chapPartsSpec)) chapPartsCard

/-- THE SECOND FORM's CARD OF 'fairleadlaw9.ChapHashes'. -/
def chapHashesUptoCard : Claim7 := { stood := { row := chapHashesUptoRow, standIns := [], harness := (true, "d848b456771465d59b552508a8352eea4c3a926b5b77aaadab633f6ba219e0b5"), looks := true }, kinds := [], alts := [], laidByText := true, laidKinds := [.data, .handle, .pinned], laidTests := true, laidLooks := .later }
def ChapHashesUptoCardSaid : Prop := Claim7.holds Tryd.pinned (.plain (OpenSpec.upto chapHashesSpec)) chapHashesUptoCard

/-- THE SECOND FORM's CARD OF 'fairleadlaw9.ChapUnits'. -/
def chapUnitsUptoCard : Claim7 := { stood := { row := chapUnitsUptoRow, standIns := [], harness := (true, "d848b456771465d59b552508a8352eea4c3a926b5b77aaadab633f6ba219e0b5"), looks := true }, kinds := [], alts := [], laidByText := true, laidKinds := [.data, .handle, .pinned], laidTests := true, laidLooks := .later }
def ChapUnitsUptoCardSaid : Prop := Claim7.holds Tryd.pinned (.plain (OpenSpec.upto chapUnitsSpec)) chapUnitsUptoCard

/-- THE SECOND FORM's CARD OF 'fairleadlaw9.ChapParts'. -/
def chapPartsUptoCard : Claim7 := { stood := { row := chapPartsUptoRow, standIns := [], harness := (true, "d848b456771465d59b552508a8352eea4c3a926b5b77aaadab633f6ba219e0b5"), looks := true }, kinds := [], alts := [], laidByText := true, laidKinds := [.data, .handle, .pinned], laidTests := true, laidLooks := .later }
def ChapPartsUptoCardSaid : Prop := Claim7.holds Tryd.pinned (.plain (OpenSpec.upto chapPartsSpec)) chapPartsUptoCard
end Rows
end Go.Proofs.YtoeijgbjgbgelaaDoor
