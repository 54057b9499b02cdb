/-
  DERIVED. GIVEN WITH THE SEED: THE CARDS: each row of YtpofkhjkdkkajaaDoorRows.lean that lists a variable, with what it lists TIED to the program's text (the seventh form; the later family's looks); each row that meets fmt, with fmt's text TOLD by the authors' own Lean function (tested against real Go, not proved from fmt's source: count such statements apart). THE CARD IS WHAT COUNTS. Prove the row's statement (the work); the ties are given (YtpofkhjkdkkajaaDoorTie.lean); close each card by the builder's one call (the guide's Derived/Test/ToyasCard.lean, 'card_holds'). Laid BY PROGRAM, IN A SANDBOX (cutbox-door.mjs). By AI agents, Wed Nov 11 2026. No macro, syntax, notation, axiom, sorry.
-/
import Derived.Test.YtpofkhjkdkkajaaDoorRows
import GoSem.ClaimSeven
namespace Go.Proofs.YtpofkhjkdkkajaaDoor
namespace Rows

/-- THE TIED CARD OF 'fairleadlaw26.GateWires'. -/
def gateWiresCard : Claim7 := { stood := { row := gateWiresRow, standIns := [], harness := (true, "7db9daa1a0c26b0a4d8629d9a49f21a28a0de7136281b861cac71a81a6cff372"), looks := true }, kinds := [], alts := [], laidByText := true, laidKinds := [.handle], laidTests := true, laidLooks := .later }
def GateWiresCardSaid : Prop := Claim7.holds Tryd.pinned (.plain (OpenSpec.ofChange gateWiresSpec)) gateWiresCard

/-- THE TIED CARD OF 'fairleadlaw26.GateKnown'. -/
def gateKnownCard : Claim7 := { stood := { row := gateKnownRow, standIns := [], harness := (true, "7db9daa1a0c26b0a4d8629d9a49f21a28a0de7136281b861cac71a81a6cff372"), looks := true }, kinds := [], alts := [], laidByText := true, laidKinds := [.handle], laidTests := true, laidLooks := .later }
def GateKnownCardSaid : Prop := Claim7.holds Tryd.pinned (.plain (OpenSpec.ofChange gateKnownSpec)) gateKnownCard

/-- THE TIED CARD OF 'fairleadlaw26.GateLooks'. -/
def gateLooksCard : Claim7 := { stood := { row := gateLooksRow, standIns := [], harness := (true, "7db9daa1a0c26b0a4d8629d9a49f21a28a0de7136281b861cac71a81a6cff372"), looks := true }, kinds := [], alts := [], laidByText := true, laidKinds := [.handle], laidTests := true, laidLooks := .later }
def GateLooksCardSaid : Prop := Claim7.holds Tryd.pinned (.plain (OpenSpec.ofChange gateLooksSpec)) gateLooksCard

/-- THE TIED CARD OF 'fairleadlaw26.GateParts'. -/
def gatePartsCard : Claim7 := { stood := { row := gatePartsRow, standIns := [], harness := (true, "7db9daa1a0c26b0a4d8629d9a49f21a28a0de7136281b861cac71a81a6cff372"), looks := true }, kinds := [], alts := [], laidByText := true, laidKinds := [.handle], laidTests := true, laidLooks := .later }
def GatePartsCardSaid : Prop := Claim7.holds Tryd.pinned (.plain (OpenSpec.ofChange gatePartsSpec)) gatePartsCard

/-- THE SECOND FORM's CARD OF 'fairleadlaw26.GateWires'. -/
def gateWiresUptoCard : Claim7 := { stood := { row := gateWiresUptoRow, standIns := [], harness := (true, "7db9daa1a0c26b0a4d8629d9a49f21a28a0de7136281b861cac71a81a6cff372"), looks := true }, kinds := [], alts := [], laidByText := true, laidKinds := [.handle], laidTests := true, laidLooks := .later }
def GateWiresUptoCardSaid : Prop := Claim7.holds Tryd.pinned (.plain (OpenSpec.upto gateWiresSpec)) gateWiresUptoCard

/-- THE SECOND FORM's CARD OF 'fairleadlaw26.GateKnown'. -/
def gateKnownUptoCard : Claim7 := { stood := { row := gateKnownUptoRow, standIns := [], harness := (true, "7db9daa1a0c26b0a4d8629d9a49f21a28a0de7136281b861cac71a81a6cff372"), looks := true }, kinds := [], alts := [], laidByText := true, laidKinds := [.handle], laidTests := true, laidLooks := .later }
def GateKnownUptoCardSaid : Prop := Claim7.holds Tryd.pinned (.plain (OpenSpec.upto gateKnownSpec)) gateKnownUptoCard

/-- THE SECOND FORM's CARD OF 'fairleadlaw26.GateLooks'. -/
def gateLooksUptoCard : Claim7 := { stood := { row := gateLooksUptoRow, standIns := [], harness := (true, "7db9daa1a0c26b0a4d8629d9a49f21a28a0de7136281b861cac71a81a6cff372"), looks := true }, kinds := [], alts := [], laidByText := true, laidKinds := [.handle], laidTests := true, laidLooks := .later }
def GateLooksUptoCardSaid : Prop := Claim7.holds Tryd.pinned (.plain (OpenSpec.upto gateLooksSpec)) gateLooksUptoCard

/-- THE SECOND FORM's CARD OF 'fairleadlaw26.GateParts'. -/
def gatePartsUptoCard : Claim7 := { stood := { row := gatePartsUptoRow, standIns := [], harness := (true, "7db9daa1a0c26b0a4d8629d9a49f21a28a0de7136281b861cac71a81a6cff372"), looks := true }, kinds := [], alts := [], laidByText := true, laidKinds := [.handle], laidTests := true, laidLooks := .later }
def GatePartsUptoCardSaid : Prop := Claim7.holds Tryd.pinned (.plain (OpenSpec.upto gatePartsSpec)) gatePartsUptoCard
end Rows
end Go.Proofs.YtpofkhjkdkkajaaDoor
