/-
  No cell of these rows narrows 'for every input' (looked for: loops, veiled, ifaces, maps, wideKeys, modest, calm, conditions, laid).
  DERIVED. THE GIVEN ROWS OF THIS SEAT. 9 by the template 'for every input the law returns true; each argument reads behind the call as it read before'; 0 by the template 'total and deterministic' (their statements: YtififgodhnelgaaTotals.lean).
  GIVEN WITH THE SEED: the statements are not yours to turn. If you find one false, say at which input.
  Laid BY PROGRAM, IN A SANDBOX (cutbox-rows.mjs): the forced cells as the released guide's own fill.sh prints them over the translation 63b4c2b1f38ed879… (all of the seat's roots in one cut). By AI agents, Wed Nov 11 2026. No macro, syntax, notation, axiom, sorry.
-/
import Derived.Test.YtififgodhnelgaaChecked
import GoSem.Claim
import GoSem.ClaimJoined
import GoSem.ClaimMapViews
import Derived.JoinedTies
import Derived.KernelRfl
namespace Go.Proofs.Ytififgodhnelgaa
/- THE CELL 'sum', in the pinned program and in every row, IS THE sha256 OF THE DUMP (.gsa) THAT YtififgodhnelgaaProg.lean LOADS. Nothing in Lean hashes anything: it is a label: what it is worth is what the hold of that sum in a sandbox is worth. -/
noncomputable def Try.pinned : Pinned := { name := "ytififgodhnelgaa", sum := "63b4c2b1f38ed8794b7a8a441c3c456d301b0326460736e45fd53d01d538d5ad", checked := Try.checked }
namespace Rows
def none {H : Type} : Left H := { results := [], args := [] }

/-- 'fairleadlaw11.PacketCodes': WHATEVER THE INPUT: true; the input reads as it did. -/
def packetCodesSpec : ChangeSpec := { name := "packetCodes", fn := fun _ => fun
  | [d1, d2] => { results := [.lit (.bool true)], args := [d1, d2] }
  | _ => none }
def packetCodesRow : OpenClaim := { program := "ytififgodhnelgaa", sum := "63b4c2b1f38ed8794b7a8a441c3c456d301b0326460736e45fd53d01d538d5ad", func := "fairlead/fairleadlaw11.PacketCodes", spec := "packetCodes", inPlace := ["internal/reflectlite.TypeOf"], unfollowed := true, recurses := true, apart := false }
def PacketCodesSaid : Prop := packetCodesRow.holds Try.pinned (OpenSpec.ofChange packetCodesSpec)

/-- ITS FALSE NEIGHBOUR: 'it returns false'. Refute it at one input. -/
def packetCodesWrong : ChangeSpec := { name := "packetCodes", fn := fun _ => fun
  | [d1, d2] => { results := [.lit (.bool false)], args := [d1, d2] }
  | _ => none }
def PacketCodesWrongFalsely : Prop := packetCodesRow.holds Try.pinned (OpenSpec.ofChange packetCodesWrong)

/-- 'fairleadlaw11.PacketKnown': WHATEVER THE INPUT: true; the input reads as it did. -/
def packetKnownSpec : ChangeSpec := { name := "packetKnown", fn := fun _ => fun
  | [] => { results := [.lit (.bool true)], args := [] }
  | _ => none }
def packetKnownRow : OpenClaim := { program := "ytififgodhnelgaa", sum := "63b4c2b1f38ed8794b7a8a441c3c456d301b0326460736e45fd53d01d538d5ad", func := "fairlead/fairleadlaw11.PacketKnown", spec := "packetKnown", inPlace := ["internal/reflectlite.TypeOf"], unfollowed := true, recurses := true, apart := false }
def PacketKnownSaid : Prop := packetKnownRow.holds Try.pinned (OpenSpec.ofChange packetKnownSpec)

/-- ITS FALSE NEIGHBOUR: 'it returns false'. Refute it at one input. -/
def packetKnownWrong : ChangeSpec := { name := "packetKnown", fn := fun _ => fun
  | [] => { results := [.lit (.bool false)], args := [] }
  | _ => none }
def PacketKnownWrongFalsely : Prop := packetKnownRow.holds Try.pinned (OpenSpec.ofChange packetKnownWrong)

/-- 'fairleadlaw11.PacketBack': WHATEVER THE INPUT: true; the input reads as it did. -/
def packetBackSpec : ChangeSpec := { name := "packetBack", fn := fun _ => fun
  | [d1, d2, d3] => { results := [.lit (.bool true)], args := [d1, d2, d3] }
  | _ => none }
def packetBackRow : OpenClaim := { program := "ytififgodhnelgaa", sum := "63b4c2b1f38ed8794b7a8a441c3c456d301b0326460736e45fd53d01d538d5ad", func := "fairlead/fairleadlaw11.PacketBack", spec := "packetBack", inPlace := ["internal/reflectlite.TypeOf"], unfollowed := true, recurses := true, apart := false }
def PacketBackSaid : Prop := packetBackRow.holds Try.pinned (OpenSpec.ofChange packetBackSpec)

/-- ITS FALSE NEIGHBOUR: 'it returns false'. Refute it at one input. -/
def packetBackWrong : ChangeSpec := { name := "packetBack", fn := fun _ => fun
  | [d1, d2, d3] => { results := [.lit (.bool false)], args := [d1, d2, d3] }
  | _ => none }
def PacketBackWrongFalsely : Prop := packetBackRow.holds Try.pinned (OpenSpec.ofChange packetBackWrong)

/-- 'fairleadlaw11.PacketOptions': WHATEVER THE INPUT: true; the input reads as it did. -/
def packetOptionsSpec : ChangeSpec := { name := "packetOptions", fn := fun _ => fun
  | [d1, d2, d3] => { results := [.lit (.bool true)], args := [d1, d2, d3] }
  | _ => none }
def packetOptionsRow : OpenClaim := { program := "ytififgodhnelgaa", sum := "63b4c2b1f38ed8794b7a8a441c3c456d301b0326460736e45fd53d01d538d5ad", func := "fairlead/fairleadlaw11.PacketOptions", spec := "packetOptions", inPlace := ["internal/reflectlite.TypeOf"], unfollowed := true, recurses := true, apart := false }
def PacketOptionsSaid : Prop := packetOptionsRow.holds Try.pinned (OpenSpec.ofChange packetOptionsSpec)

/-- ITS FALSE NEIGHBOUR: 'it returns false'. Refute it at one input. -/
def packetOptionsWrong : ChangeSpec := { name := "packetOptions", fn := fun _ => fun
  | [d1, d2, d3] => { results := [.lit (.bool false)], args := [d1, d2, d3] }
  | _ => none }
def PacketOptionsWrongFalsely : Prop := packetOptionsRow.holds Try.pinned (OpenSpec.ofChange packetOptionsWrong)

/-- 'fairleadlaw11.PacketJoins': WHATEVER THE INPUT: true; the input reads as it did. -/
def packetJoinsSpec : ChangeSpec := { name := "packetJoins", fn := fun _ => fun
  | [d1, d2] => { results := [.lit (.bool true)], args := [d1, d2] }
  | _ => none }
def packetJoinsRow : OpenClaim := { program := "ytififgodhnelgaa", sum := "63b4c2b1f38ed8794b7a8a441c3c456d301b0326460736e45fd53d01d538d5ad", func := "fairlead/fairleadlaw11.PacketJoins", spec := "packetJoins", inPlace := ["internal/reflectlite.TypeOf"], unfollowed := true, recurses := true, apart := false }
def PacketJoinsSaid : Prop := packetJoinsRow.holds Try.pinned (OpenSpec.ofChange packetJoinsSpec)

/-- ITS FALSE NEIGHBOUR: 'it returns false'. Refute it at one input. -/
def packetJoinsWrong : ChangeSpec := { name := "packetJoins", fn := fun _ => fun
  | [d1, d2] => { results := [.lit (.bool false)], args := [d1, d2] }
  | _ => none }
def PacketJoinsWrongFalsely : Prop := packetJoinsRow.holds Try.pinned (OpenSpec.ofChange packetJoinsWrong)

/-- 'fairleadlaw8.DesKnown': WHATEVER THE INPUT: true; the input reads as it did. -/
def desKnownSpec : ChangeSpec := { name := "desKnown", fn := fun _ => fun
  | [] => { results := [.lit (.bool true)], args := [] }
  | _ => none }
def desKnownRow : OpenClaim := { program := "ytififgodhnelgaa", sum := "63b4c2b1f38ed8794b7a8a441c3c456d301b0326460736e45fd53d01d538d5ad", func := "fairlead/fairleadlaw8.DesKnown", spec := "desKnown", unfollowed := true, recurses := true, apart := false }
def DesKnownSaid : Prop := desKnownRow.holds Try.pinned (OpenSpec.ofChange desKnownSpec)

/-- ITS FALSE NEIGHBOUR: 'it returns false'. Refute it at one input. -/
def desKnownWrong : ChangeSpec := { name := "desKnown", fn := fun _ => fun
  | [] => { results := [.lit (.bool false)], args := [] }
  | _ => none }
def DesKnownWrongFalsely : Prop := desKnownRow.holds Try.pinned (OpenSpec.ofChange desKnownWrong)

/-- 'fairleadlaw8.DesBlocks': WHATEVER THE INPUT: true; the input reads as it did. -/
def desBlocksSpec : ChangeSpec := { name := "desBlocks", fn := fun _ => fun
  | [d1, d2] => { results := [.lit (.bool true)], args := [d1, d2] }
  | _ => none }
def desBlocksRow : OpenClaim := { program := "ytififgodhnelgaa", sum := "63b4c2b1f38ed8794b7a8a441c3c456d301b0326460736e45fd53d01d538d5ad", func := "fairlead/fairleadlaw8.DesBlocks", spec := "desBlocks", unfollowed := true, recurses := true, apart := false }
def DesBlocksSaid : Prop := desBlocksRow.holds Try.pinned (OpenSpec.ofChange desBlocksSpec)

/-- ITS FALSE NEIGHBOUR: 'it returns false'. Refute it at one input. -/
def desBlocksWrong : ChangeSpec := { name := "desBlocks", fn := fun _ => fun
  | [d1, d2] => { results := [.lit (.bool false)], args := [d1, d2] }
  | _ => none }
def DesBlocksWrongFalsely : Prop := desBlocksRow.holds Try.pinned (OpenSpec.ofChange desBlocksWrong)

/-- 'fairleadlaw8.DesTurned': WHATEVER THE INPUT: true; the input reads as it did. -/
def desTurnedSpec : ChangeSpec := { name := "desTurned", fn := fun _ => fun
  | [d1, d2, d3] => { results := [.lit (.bool true)], args := [d1, d2, d3] }
  | _ => none }
def desTurnedRow : OpenClaim := { program := "ytififgodhnelgaa", sum := "63b4c2b1f38ed8794b7a8a441c3c456d301b0326460736e45fd53d01d538d5ad", func := "fairlead/fairleadlaw8.DesTurned", spec := "desTurned", unfollowed := true, recurses := true, apart := false }
def DesTurnedSaid : Prop := desTurnedRow.holds Try.pinned (OpenSpec.ofChange desTurnedSpec)

/-- ITS FALSE NEIGHBOUR: 'it returns false'. Refute it at one input. -/
def desTurnedWrong : ChangeSpec := { name := "desTurned", fn := fun _ => fun
  | [d1, d2, d3] => { results := [.lit (.bool false)], args := [d1, d2, d3] }
  | _ => none }
def DesTurnedWrongFalsely : Prop := desTurnedRow.holds Try.pinned (OpenSpec.ofChange desTurnedWrong)

/-- 'fairleadlaw8.DesTwice': WHATEVER THE INPUT: true; the input reads as it did. -/
def desTwiceSpec : ChangeSpec := { name := "desTwice", fn := fun _ => fun
  | [d1, d2] => { results := [.lit (.bool true)], args := [d1, d2] }
  | _ => none }
def desTwiceRow : OpenClaim := { program := "ytififgodhnelgaa", sum := "63b4c2b1f38ed8794b7a8a441c3c456d301b0326460736e45fd53d01d538d5ad", func := "fairlead/fairleadlaw8.DesTwice", spec := "desTwice", unfollowed := true, recurses := true, apart := false }
def DesTwiceSaid : Prop := desTwiceRow.holds Try.pinned (OpenSpec.ofChange desTwiceSpec)

/-- ITS FALSE NEIGHBOUR: 'it returns false'. Refute it at one input. -/
def desTwiceWrong : ChangeSpec := { name := "desTwice", fn := fun _ => fun
  | [d1, d2] => { results := [.lit (.bool false)], args := [d1, d2] }
  | _ => none }
def DesTwiceWrongFalsely : Prop := desTwiceRow.holds Try.pinned (OpenSpec.ofChange desTwiceWrong)

/- THE SECOND FORM. 'bulk': how many values and letters a reading holds, each counted each time it is reached (what is shared counts as often as it is met; a slice's spare places count too). A statement '..UptoSaid' is the law's where the arguments, and the package variables that the reading takes, are together of bulk at most 1048576: NARROWER than '..Said'. Prove '..Said' where nothing that the law and all that it calls make is longer than what came in: it says more and counts as full. Else prove '..UptoSaid'. A law counts once. -/
mutual
def uptoBulk {H : Type} : DataW H → Nat
  | .lit (.string bytes) => bytes.length + 1
  | .lit _ => 1
  | .nil => 1
  | .ptr d => uptoBulk d + 1
  | .slice elems spare => uptoBulkAll elems + uptoBulkAll spare + 1
  | .agg parts => uptoBulkAll parts + 1
  | .iface _ d => uptoBulk d + 1
  | .map entries => uptoBulkEntries entries + 1
  | .held _ => 1
def uptoBulkAll {H : Type} : List (DataW H) → Nat
  | [] => 0
  | d :: r => uptoBulk d + uptoBulkAll r
def uptoBulkEntries {H : Type} : List (Lit × DataW H) → Nat
  | [] => 0
  | x :: r => uptoBulkEntry x + uptoBulkEntries r
def uptoBulkEntry {H : Type} : Lit × DataW H → Nat
  | (.string bytes, d) => bytes.length + uptoBulk d + 1
  | (_, d) => uptoBulk d + 1
 end
def uptoSmall : (H : Type) → List (DataW H) → Bool := fun _ ds => decide (uptoBulkAll ds ≤ 1048576)
def OpenSpec.upto (s : _root_.Go.ChangeSpec) : _root_.Go.OpenSpec := { _root_.Go.OpenSpec.ofChange s with cond := some uptoSmall }

/-- 'fairleadlaw11.PacketCodes', WHERE WHAT IT READS IS OF BULK AT MOST 1048576: true; the input reads as it did. -/
def packetCodesUptoRow : OpenClaim := { program := "ytififgodhnelgaa", sum := "63b4c2b1f38ed8794b7a8a441c3c456d301b0326460736e45fd53d01d538d5ad", func := "fairlead/fairleadlaw11.PacketCodes", spec := "packetCodes", inPlace := ["internal/reflectlite.TypeOf"], unfollowed := true, recurses := true, apart := false, narrowed := true }
def PacketCodesUptoSaid : Prop := packetCodesUptoRow.holds Try.pinned (OpenSpec.upto packetCodesSpec)

/-- 'fairleadlaw11.PacketKnown', WHERE WHAT IT READS IS OF BULK AT MOST 1048576: true; the input reads as it did. -/
def packetKnownUptoRow : OpenClaim := { program := "ytififgodhnelgaa", sum := "63b4c2b1f38ed8794b7a8a441c3c456d301b0326460736e45fd53d01d538d5ad", func := "fairlead/fairleadlaw11.PacketKnown", spec := "packetKnown", inPlace := ["internal/reflectlite.TypeOf"], unfollowed := true, recurses := true, apart := false, narrowed := true }
def PacketKnownUptoSaid : Prop := packetKnownUptoRow.holds Try.pinned (OpenSpec.upto packetKnownSpec)

/-- 'fairleadlaw11.PacketBack', WHERE WHAT IT READS IS OF BULK AT MOST 1048576: true; the input reads as it did. -/
def packetBackUptoRow : OpenClaim := { program := "ytififgodhnelgaa", sum := "63b4c2b1f38ed8794b7a8a441c3c456d301b0326460736e45fd53d01d538d5ad", func := "fairlead/fairleadlaw11.PacketBack", spec := "packetBack", inPlace := ["internal/reflectlite.TypeOf"], unfollowed := true, recurses := true, apart := false, narrowed := true }
def PacketBackUptoSaid : Prop := packetBackUptoRow.holds Try.pinned (OpenSpec.upto packetBackSpec)

/-- 'fairleadlaw11.PacketOptions', WHERE WHAT IT READS IS OF BULK AT MOST 1048576: true; the input reads as it did. -/
def packetOptionsUptoRow : OpenClaim := { program := "ytififgodhnelgaa", sum := "63b4c2b1f38ed8794b7a8a441c3c456d301b0326460736e45fd53d01d538d5ad", func := "fairlead/fairleadlaw11.PacketOptions", spec := "packetOptions", inPlace := ["internal/reflectlite.TypeOf"], unfollowed := true, recurses := true, apart := false, narrowed := true }
def PacketOptionsUptoSaid : Prop := packetOptionsUptoRow.holds Try.pinned (OpenSpec.upto packetOptionsSpec)

/-- 'fairleadlaw11.PacketJoins', WHERE WHAT IT READS IS OF BULK AT MOST 1048576: true; the input reads as it did. -/
def packetJoinsUptoRow : OpenClaim := { program := "ytififgodhnelgaa", sum := "63b4c2b1f38ed8794b7a8a441c3c456d301b0326460736e45fd53d01d538d5ad", func := "fairlead/fairleadlaw11.PacketJoins", spec := "packetJoins", inPlace := ["internal/reflectlite.TypeOf"], unfollowed := true, recurses := true, apart := false, narrowed := true }
def PacketJoinsUptoSaid : Prop := packetJoinsUptoRow.holds Try.pinned (OpenSpec.upto packetJoinsSpec)

/-- 'fairleadlaw8.DesKnown', WHERE WHAT IT READS IS OF BULK AT MOST 1048576: true; the input reads as it did. -/
def desKnownUptoRow : OpenClaim := { program := "ytififgodhnelgaa", sum := "63b4c2b1f38ed8794b7a8a441c3c456d301b0326460736e45fd53d01d538d5ad", func := "fairlead/fairleadlaw8.DesKnown", spec := "desKnown", unfollowed := true, recurses := true, apart := false, narrowed := true }
def DesKnownUptoSaid : Prop := desKnownUptoRow.holds Try.pinned (OpenSpec.upto desKnownSpec)

/-- 'fairleadlaw8.DesBlocks', WHERE WHAT IT READS IS OF BULK AT MOST 1048576: true; the input reads as it did. -/
def desBlocksUptoRow : OpenClaim := { program := "ytififgodhnelgaa", sum := "63b4c2b1f38ed8794b7a8a441c3c456d301b0326460736e45fd53d01d538d5ad", func := "fairlead/fairleadlaw8.DesBlocks", spec := "desBlocks", unfollowed := true, recurses := true, apart := false, narrowed := true }
def DesBlocksUptoSaid : Prop := desBlocksUptoRow.holds Try.pinned (OpenSpec.upto desBlocksSpec)

/-- 'fairleadlaw8.DesTurned', WHERE WHAT IT READS IS OF BULK AT MOST 1048576: true; the input reads as it did. -/
def desTurnedUptoRow : OpenClaim := { program := "ytififgodhnelgaa", sum := "63b4c2b1f38ed8794b7a8a441c3c456d301b0326460736e45fd53d01d538d5ad", func := "fairlead/fairleadlaw8.DesTurned", spec := "desTurned", unfollowed := true, recurses := true, apart := false, narrowed := true }
def DesTurnedUptoSaid : Prop := desTurnedUptoRow.holds Try.pinned (OpenSpec.upto desTurnedSpec)

/-- 'fairleadlaw8.DesTwice', WHERE WHAT IT READS IS OF BULK AT MOST 1048576: true; the input reads as it did. -/
def desTwiceUptoRow : OpenClaim := { program := "ytififgodhnelgaa", sum := "63b4c2b1f38ed8794b7a8a441c3c456d301b0326460736e45fd53d01d538d5ad", func := "fairlead/fairleadlaw8.DesTwice", spec := "desTwice", unfollowed := true, recurses := true, apart := false, narrowed := true }
def DesTwiceUptoSaid : Prop := desTwiceUptoRow.holds Try.pinned (OpenSpec.upto desTwiceSpec)

end Rows
end Go.Proofs.Ytififgodhnelgaa
