/-
  DERIVED. GIVEN WITH THE SEED: THE CARDS: each row of YtgmopcbfgcagaaaDoorRows.lean that lists a variable, with what it lists TIED to the program's text (the seventh form; the later family's looks); each row that meets fmt, with fmt's text TOLD by the authors' own Lean function (tested against real Go, not proved from fmt's source: count such statements apart). THE CARD IS WHAT COUNTS. Prove the row's statement (the work); the ties are given (YtgmopcbfgcagaaaDoorTie.lean); close each card by the builder's one call (the guide's Derived/Test/ToyasCard.lean, 'card_holds'). Laid BY PROGRAM, IN A SANDBOX (cutbox-door.mjs). By AI agents, Wed Nov 11 2026. No macro, syntax, notation, axiom, sorry.
-/
import Derived.Test.YtgmopcbfgcagaaaDoorRows
import GoSem.ClaimSeven
namespace Go.Proofs.YtgmopcbfgcagaaaDoor
namespace Rows

/-- THE TIED CARD OF 'fairleadlaw18.InflateStored'. -/
def inflateStoredCard : Claim7 := { stood := { row := inflateStoredRow, standIns := [], harness := (true, "12487687b0f2a4e326227b334f4ab789487ca98c6e08befe4bc67b2096b1f006"), looks := true }, kinds := [], alts := [], laidByText := true, laidKinds := [.handle], laidTests := true, laidLooks := .later }
def InflateStoredCardSaid : Prop := Claim7.holds Tryd.pinned (.plain (OpenSpec.ofChange inflateStoredSpec)) inflateStoredCard

/-- THE TIED CARD OF 'fairleadlaw18.InflateCuts'. -/
def inflateCutsCard : Claim7 := { stood := { row := inflateCutsRow, standIns := [], harness := (true, "12487687b0f2a4e326227b334f4ab789487ca98c6e08befe4bc67b2096b1f006"), looks := true }, kinds := [], alts := [], laidByText := true, laidKinds := [.handle], laidTests := true, laidLooks := .later }
def InflateCutsCardSaid : Prop := Claim7.holds Tryd.pinned (.plain (OpenSpec.ofChange inflateCutsSpec)) inflateCutsCard

/-- THE TIED CARD OF 'fairleadlaw18.InflateKnown'. -/
def inflateKnownCard : Claim7 := { stood := { row := inflateKnownRow, standIns := [], harness := (true, "12487687b0f2a4e326227b334f4ab789487ca98c6e08befe4bc67b2096b1f006"), looks := true }, kinds := [], alts := [], laidByText := true, laidKinds := [.handle], laidTests := true, laidLooks := .later }
def InflateKnownCardSaid : Prop := Claim7.holds Tryd.pinned (.plain (OpenSpec.ofChange inflateKnownSpec)) inflateKnownCard

/-- THE TIED CARD OF 'fairleadlaw18.InflateMore'. -/
def inflateMoreCard : Claim7 := { stood := { row := inflateMoreRow, standIns := [], harness := (true, "12487687b0f2a4e326227b334f4ab789487ca98c6e08befe4bc67b2096b1f006"), looks := true }, kinds := [], alts := [], laidByText := true, laidKinds := [.handle], laidTests := true, laidLooks := .later }
def InflateMoreCardSaid : Prop := Claim7.holds Tryd.pinned (.plain (OpenSpec.ofChange inflateMoreSpec)) inflateMoreCard

/-- THE TIED CARD OF 'fairleadlaw18.InflatePackets'. -/
def inflatePacketsCard : Claim7 := { stood := { row := inflatePacketsRow, standIns := [], harness := (true, "12487687b0f2a4e326227b334f4ab789487ca98c6e08befe4bc67b2096b1f006"), looks := true }, kinds := [], alts := [], laidByText := true, laidKinds := [.handle], laidTests := true, laidLooks := .later }
def InflatePacketsCardSaid : Prop := Claim7.holds Tryd.pinned (.plain (OpenSpec.ofChange inflatePacketsSpec)) inflatePacketsCard

/-- THE SECOND FORM's CARD OF 'fairleadlaw18.InflateStored'. -/
def inflateStoredUptoCard : Claim7 := { stood := { row := inflateStoredUptoRow, standIns := [], harness := (true, "12487687b0f2a4e326227b334f4ab789487ca98c6e08befe4bc67b2096b1f006"), looks := true }, kinds := [], alts := [], laidByText := true, laidKinds := [.handle], laidTests := true, laidLooks := .later }
def InflateStoredUptoCardSaid : Prop := Claim7.holds Tryd.pinned (.plain (OpenSpec.upto inflateStoredSpec)) inflateStoredUptoCard

/-- THE SECOND FORM's CARD OF 'fairleadlaw18.InflateCuts'. -/
def inflateCutsUptoCard : Claim7 := { stood := { row := inflateCutsUptoRow, standIns := [], harness := (true, "12487687b0f2a4e326227b334f4ab789487ca98c6e08befe4bc67b2096b1f006"), looks := true }, kinds := [], alts := [], laidByText := true, laidKinds := [.handle], laidTests := true, laidLooks := .later }
def InflateCutsUptoCardSaid : Prop := Claim7.holds Tryd.pinned (.plain (OpenSpec.upto inflateCutsSpec)) inflateCutsUptoCard

/-- THE SECOND FORM's CARD OF 'fairleadlaw18.InflateKnown'. -/
def inflateKnownUptoCard : Claim7 := { stood := { row := inflateKnownUptoRow, standIns := [], harness := (true, "12487687b0f2a4e326227b334f4ab789487ca98c6e08befe4bc67b2096b1f006"), looks := true }, kinds := [], alts := [], laidByText := true, laidKinds := [.handle], laidTests := true, laidLooks := .later }
def InflateKnownUptoCardSaid : Prop := Claim7.holds Tryd.pinned (.plain (OpenSpec.upto inflateKnownSpec)) inflateKnownUptoCard

/-- THE SECOND FORM's CARD OF 'fairleadlaw18.InflateMore'. -/
def inflateMoreUptoCard : Claim7 := { stood := { row := inflateMoreUptoRow, standIns := [], harness := (true, "12487687b0f2a4e326227b334f4ab789487ca98c6e08befe4bc67b2096b1f006"), looks := true }, kinds := [], alts := [], laidByText := true, laidKinds := [.handle], laidTests := true, laidLooks := .later }
def InflateMoreUptoCardSaid : Prop := Claim7.holds Tryd.pinned (.plain (OpenSpec.upto inflateMoreSpec)) inflateMoreUptoCard

/-- THE SECOND FORM's CARD OF 'fairleadlaw18.InflatePackets'. -/
def inflatePacketsUptoCard : Claim7 := { stood := { row := inflatePacketsUptoRow, standIns := [], harness := (true, "12487687b0f2a4e326227b334f4ab789487ca98c6e08befe4bc67b2096b1f006"), looks := true }, kinds := [], alts := [], laidByText := true, laidKinds := [.handle], laidTests := true, laidLooks := .later }
def InflatePacketsUptoCardSaid : Prop := Claim7.holds Tryd.pinned (.plain (OpenSpec.upto inflatePacketsSpec)) inflatePacketsUptoCard
end Rows
end Go.Proofs.YtgmopcbfgcagaaaDoor
