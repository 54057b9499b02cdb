/-
  DERIVED. GIVEN WITH THE SEED: THE CARDS: each row of YtebkcfdcmincfaaDoorRows.lean that lists a variable, with what it lists TIED to the program's text (the seventh form; the later family's looks); each row that meets fmt, with fmt's text TOLD by the authors' own Lean function (tested against real Go, not proved from fmt's source: count such statements apart). THE CARD IS WHAT COUNTS. Prove the row's statement (the work); the ties are given (YtebkcfdcmincfaaDoorTie.lean); close each card by the builder's one call (the guide's Derived/Test/ToyasCard.lean, 'card_holds'). Laid BY PROGRAM, IN A SANDBOX (cutbox-door.mjs). By AI agents, Wed Nov 11 2026. No macro, syntax, notation, axiom, sorry.
-/
import Derived.Test.YtebkcfdcmincfaaDoorRows
import GoSem.ClaimSeven
namespace Go.Proofs.YtebkcfdcmincfaaDoor
namespace Rows

/-- THE TIED CARD OF 'fairleadlaw4.FrameKnown'. -/
def frameKnownCard : Claim7 := { stood := { row := frameKnownRow, standIns := [], harness := (true, "febc034ccf11541b4f349216a09937fe34c75095d19bc848434b020eb5eb71bc"), looks := true }, kinds := [], alts := [], laidByText := true, laidKinds := [.handle], laidTests := true, laidLooks := .later }
def FrameKnownCardSaid : Prop := Claim7.holds Tryd.pinned (.plain (OpenSpec.ofChange frameKnownSpec)) frameKnownCard

/-- THE TIED CARD OF 'fairleadlaw4.FrameCodes'. -/
def frameCodesCard : Claim7 := { stood := { row := frameCodesRow, standIns := [], harness := (true, "febc034ccf11541b4f349216a09937fe34c75095d19bc848434b020eb5eb71bc"), looks := true }, kinds := [], alts := [], laidByText := true, laidKinds := [.handle], laidTests := true, laidLooks := .later }
def FrameCodesCardSaid : Prop := Claim7.holds Tryd.pinned (.plain (OpenSpec.ofChange frameCodesSpec)) frameCodesCard

/-- THE TIED CARD OF 'fairleadlaw4.FrameForms'. -/
def frameFormsCard : Claim7 := { stood := { row := frameFormsRow, standIns := [], harness := (true, "febc034ccf11541b4f349216a09937fe34c75095d19bc848434b020eb5eb71bc"), looks := true }, kinds := [], alts := [], laidByText := true, laidKinds := [.handle], laidTests := true, laidLooks := .later }
def FrameFormsCardSaid : Prop := Claim7.holds Tryd.pinned (.plain (OpenSpec.ofChange frameFormsSpec)) frameFormsCard

/-- THE TIED CARD OF 'fairleadlaw4.FrameAll'. -/
def frameAllCard : Claim7 := { stood := { row := frameAllRow, standIns := [], harness := (true, "febc034ccf11541b4f349216a09937fe34c75095d19bc848434b020eb5eb71bc"), looks := true }, kinds := [], alts := [], laidByText := true, laidKinds := [.handle], laidTests := true, laidLooks := .later }
def FrameAllCardSaid : Prop := Claim7.holds Tryd.pinned (.plain (OpenSpec.ofChange frameAllSpec)) frameAllCard

/-- THE TIED CARD OF 'fairleadlaw4.FrameWires'. -/
def frameWiresCard : Claim7 := { stood := { row := frameWiresRow, standIns := [], harness := (true, "febc034ccf11541b4f349216a09937fe34c75095d19bc848434b020eb5eb71bc"), looks := true }, kinds := [], alts := [], laidByText := true, laidKinds := [.handle], laidTests := true, laidLooks := .later }
def FrameWiresCardSaid : Prop := Claim7.holds Tryd.pinned (.plain (OpenSpec.ofChange frameWiresSpec)) frameWiresCard

/-- THE TIED CARD OF 'fairleadlaw4.FrameBack'. -/
def frameBackCard : Claim7 := { stood := { row := frameBackRow, standIns := [], harness := (true, "febc034ccf11541b4f349216a09937fe34c75095d19bc848434b020eb5eb71bc"), looks := true }, kinds := [], alts := [], laidByText := true, laidKinds := [.handle], laidTests := true, laidLooks := .later }
def FrameBackCardSaid : Prop := Claim7.holds Tryd.pinned (.plain (OpenSpec.ofChange frameBackSpec)) frameBackCard

/-- THE SECOND FORM's CARD OF 'fairleadlaw4.FrameKnown'. -/
def frameKnownUptoCard : Claim7 := { stood := { row := frameKnownUptoRow, standIns := [], harness := (true, "febc034ccf11541b4f349216a09937fe34c75095d19bc848434b020eb5eb71bc"), looks := true }, kinds := [], alts := [], laidByText := true, laidKinds := [.handle], laidTests := true, laidLooks := .later }
def FrameKnownUptoCardSaid : Prop := Claim7.holds Tryd.pinned (.plain (OpenSpec.upto frameKnownSpec)) frameKnownUptoCard

/-- THE SECOND FORM's CARD OF 'fairleadlaw4.FrameCodes'. -/
def frameCodesUptoCard : Claim7 := { stood := { row := frameCodesUptoRow, standIns := [], harness := (true, "febc034ccf11541b4f349216a09937fe34c75095d19bc848434b020eb5eb71bc"), looks := true }, kinds := [], alts := [], laidByText := true, laidKinds := [.handle], laidTests := true, laidLooks := .later }
def FrameCodesUptoCardSaid : Prop := Claim7.holds Tryd.pinned (.plain (OpenSpec.upto frameCodesSpec)) frameCodesUptoCard

/-- THE SECOND FORM's CARD OF 'fairleadlaw4.FrameForms'. -/
def frameFormsUptoCard : Claim7 := { stood := { row := frameFormsUptoRow, standIns := [], harness := (true, "febc034ccf11541b4f349216a09937fe34c75095d19bc848434b020eb5eb71bc"), looks := true }, kinds := [], alts := [], laidByText := true, laidKinds := [.handle], laidTests := true, laidLooks := .later }
def FrameFormsUptoCardSaid : Prop := Claim7.holds Tryd.pinned (.plain (OpenSpec.upto frameFormsSpec)) frameFormsUptoCard

/-- THE SECOND FORM's CARD OF 'fairleadlaw4.FrameAll'. -/
def frameAllUptoCard : Claim7 := { stood := { row := frameAllUptoRow, standIns := [], harness := (true, "febc034ccf11541b4f349216a09937fe34c75095d19bc848434b020eb5eb71bc"), looks := true }, kinds := [], alts := [], laidByText := true, laidKinds := [.handle], laidTests := true, laidLooks := .later }
def FrameAllUptoCardSaid : Prop := Claim7.holds Tryd.pinned (.plain (OpenSpec.upto frameAllSpec)) frameAllUptoCard

/-- THE SECOND FORM's CARD OF 'fairleadlaw4.FrameWires'. -/
def frameWiresUptoCard : Claim7 := { stood := { row := frameWiresUptoRow, standIns := [], harness := (true, "febc034ccf11541b4f349216a09937fe34c75095d19bc848434b020eb5eb71bc"), looks := true }, kinds := [], alts := [], laidByText := true, laidKinds := [.handle], laidTests := true, laidLooks := .later }
def FrameWiresUptoCardSaid : Prop := Claim7.holds Tryd.pinned (.plain (OpenSpec.upto frameWiresSpec)) frameWiresUptoCard

/-- THE SECOND FORM's CARD OF 'fairleadlaw4.FrameBack'. -/
def frameBackUptoCard : Claim7 := { stood := { row := frameBackUptoRow, standIns := [], harness := (true, "febc034ccf11541b4f349216a09937fe34c75095d19bc848434b020eb5eb71bc"), looks := true }, kinds := [], alts := [], laidByText := true, laidKinds := [.handle], laidTests := true, laidLooks := .later }
def FrameBackUptoCardSaid : Prop := Claim7.holds Tryd.pinned (.plain (OpenSpec.upto frameBackSpec)) frameBackUptoCard
end Rows
end Go.Proofs.YtebkcfdcmincfaaDoor
