/-
  NARROWER THAN 'FOR EVERY INPUT', by the rows' own cells (each row's printed sentence says how): InflateStored: laid · InflateCuts: laid · InflateKnown: laid · InflateMore: laid · InflatePackets: laid.
  DERIVED. THE GIVEN ROWS OF THIS SEAT. 5 by the template 'for every input the law returns true; each argument reads behind the call as it read before'; 0 by the template 'total and deterministic' (their statements: YtgmopcbfgcagaaaDoorTotals.lean).
  GIVEN WITH THE SEED: the statements are not yours to turn. If you find one false, say at which input.
  Laid BY PROGRAM, IN A SANDBOX (cutbox-rows.mjs): the forced cells as the released guide's own fill.sh prints them over the translation d933a49b4ef82bba… (all of the seat's roots in one cut). By AI agents, Wed Nov 11 2026. No macro, syntax, notation, axiom, sorry.
-/
import Derived.Test.YtgmopcbfgcagaaaDoorChecked
import GoSem.Claim
import GoSem.ClaimJoined
import GoSem.ClaimMapViews
import Derived.JoinedTies
import Derived.KernelRfl
namespace Go.Proofs.YtgmopcbfgcagaaaDoor
/- THE CELL 'sum', in the pinned program and in every row, IS THE sha256 OF THE DUMP (.gsa) THAT YtgmopcbfgcagaaaDoorProg.lean LOADS. Nothing in Lean hashes anything: it is a label: what it is worth is what the hold of that sum in a sandbox is worth. -/
noncomputable def Tryd.pinned : Pinned := { name := "ytgmopcbfgcagaaadoor", sum := "d933a49b4ef82bba8febd507a58883adcb1bb1c4fab906bb6a17ab13b215b88a", checked := Tryd.checked }
namespace Rows
def none {H : Type} : Left H := { results := [], args := [] }

/- WHAT THE LISTED PACKAGE-LEVEL VARIABLES READ AS WHEN THE CALL BEGINS. Each datum BY PROGRAM (the guide's laid-datum.mjs) off the statement by which the dump's own 'gosem.cut.vars' lays the variable. In a bare row this is a premise. The card (YtgmopcbfgcagaaaDoorCards.lean) ties it to the program's text. -/
def laid_errors_errorType {H : Type} : DataW H := .iface "internal/reflectlite.rtype" (.agg [.ptr (.lit (.string [101, 114, 114, 111, 114]))])

/-- 'fairleadlaw18.InflateStored': WHATEVER THE INPUT: true; the input reads as it did. -/
def inflateStoredSpec : ChangeSpec := { name := "inflateStored", fn := fun _ => fun
  | [d1, d2, d3] => { results := [.lit (.bool true)], args := [d1, d2, d3] }
  | _ => none }
def inflateStoredRow : OpenClaim := { program := "ytgmopcbfgcagaaadoor", sum := "d933a49b4ef82bba8febd507a58883adcb1bb1c4fab906bb6a17ab13b215b88a", func := "fairlead/fairleadlaw18.InflateStored", spec := "inflateStored", inPlace := ["internal/reflectlite.ValueOf", "(internal/reflectlite.Value).Type", "(internal/reflectlite.Value).IsNil", "internal/reflectlite.TypeOf", "(internal/reflectlite.Value).Elem", "(internal/reflectlite.Value).Set"], unfollowed := true, recurses := true, named := ["errors.errorType"], apart := false, laid := [("errors.errorType", laid_errors_errorType)] }
def InflateStoredSaid : Prop := inflateStoredRow.holds Tryd.pinned (OpenSpec.ofChange inflateStoredSpec)

/-- ITS FALSE NEIGHBOUR: 'it returns false'. Refute it at one input. -/
def inflateStoredWrong : ChangeSpec := { name := "inflateStored", fn := fun _ => fun
  | [d1, d2, d3] => { results := [.lit (.bool false)], args := [d1, d2, d3] }
  | _ => none }
def InflateStoredWrongFalsely : Prop := inflateStoredRow.holds Tryd.pinned (OpenSpec.ofChange inflateStoredWrong)

/-- 'fairleadlaw18.InflateCuts': WHATEVER THE INPUT: true; the input reads as it did. -/
def inflateCutsSpec : ChangeSpec := { name := "inflateCuts", fn := fun _ => fun
  | [d1, d2, d3] => { results := [.lit (.bool true)], args := [d1, d2, d3] }
  | _ => none }
def inflateCutsRow : OpenClaim := { program := "ytgmopcbfgcagaaadoor", sum := "d933a49b4ef82bba8febd507a58883adcb1bb1c4fab906bb6a17ab13b215b88a", func := "fairlead/fairleadlaw18.InflateCuts", spec := "inflateCuts", inPlace := ["internal/reflectlite.ValueOf", "(internal/reflectlite.Value).Type", "(internal/reflectlite.Value).IsNil", "internal/reflectlite.TypeOf", "(internal/reflectlite.Value).Elem", "(internal/reflectlite.Value).Set"], unfollowed := true, recurses := true, named := ["errors.errorType"], apart := false, laid := [("errors.errorType", laid_errors_errorType)] }
def InflateCutsSaid : Prop := inflateCutsRow.holds Tryd.pinned (OpenSpec.ofChange inflateCutsSpec)

/-- ITS FALSE NEIGHBOUR: 'it returns false'. Refute it at one input. -/
def inflateCutsWrong : ChangeSpec := { name := "inflateCuts", fn := fun _ => fun
  | [d1, d2, d3] => { results := [.lit (.bool false)], args := [d1, d2, d3] }
  | _ => none }
def InflateCutsWrongFalsely : Prop := inflateCutsRow.holds Tryd.pinned (OpenSpec.ofChange inflateCutsWrong)

/-- 'fairleadlaw18.InflateKnown': WHATEVER THE INPUT: true; the input reads as it did. -/
def inflateKnownSpec : ChangeSpec := { name := "inflateKnown", fn := fun _ => fun
  | [] => { results := [.lit (.bool true)], args := [] }
  | _ => none }
def inflateKnownRow : OpenClaim := { program := "ytgmopcbfgcagaaadoor", sum := "d933a49b4ef82bba8febd507a58883adcb1bb1c4fab906bb6a17ab13b215b88a", func := "fairlead/fairleadlaw18.InflateKnown", spec := "inflateKnown", inPlace := ["internal/reflectlite.ValueOf", "(internal/reflectlite.Value).Type", "(internal/reflectlite.Value).IsNil", "internal/reflectlite.TypeOf", "(internal/reflectlite.Value).Elem", "(internal/reflectlite.Value).Set"], unfollowed := true, recurses := true, named := ["errors.errorType"], apart := false, laid := [("errors.errorType", laid_errors_errorType)] }
def InflateKnownSaid : Prop := inflateKnownRow.holds Tryd.pinned (OpenSpec.ofChange inflateKnownSpec)

/-- ITS FALSE NEIGHBOUR: 'it returns false'. Refute it at one input. -/
def inflateKnownWrong : ChangeSpec := { name := "inflateKnown", fn := fun _ => fun
  | [] => { results := [.lit (.bool false)], args := [] }
  | _ => none }
def InflateKnownWrongFalsely : Prop := inflateKnownRow.holds Tryd.pinned (OpenSpec.ofChange inflateKnownWrong)

/-- 'fairleadlaw18.InflateMore': WHATEVER THE INPUT: true; the input reads as it did. -/
def inflateMoreSpec : ChangeSpec := { name := "inflateMore", fn := fun _ => fun
  | [d1, d2] => { results := [.lit (.bool true)], args := [d1, d2] }
  | _ => none }
def inflateMoreRow : OpenClaim := { program := "ytgmopcbfgcagaaadoor", sum := "d933a49b4ef82bba8febd507a58883adcb1bb1c4fab906bb6a17ab13b215b88a", func := "fairlead/fairleadlaw18.InflateMore", spec := "inflateMore", inPlace := ["internal/reflectlite.ValueOf", "(internal/reflectlite.Value).Type", "(internal/reflectlite.Value).IsNil", "internal/reflectlite.TypeOf", "(internal/reflectlite.Value).Elem", "(internal/reflectlite.Value).Set"], unfollowed := true, recurses := true, named := ["errors.errorType"], apart := false, laid := [("errors.errorType", laid_errors_errorType)] }
def InflateMoreSaid : Prop := inflateMoreRow.holds Tryd.pinned (OpenSpec.ofChange inflateMoreSpec)

/-- ITS FALSE NEIGHBOUR: 'it returns false'. Refute it at one input. -/
def inflateMoreWrong : ChangeSpec := { name := "inflateMore", fn := fun _ => fun
  | [d1, d2] => { results := [.lit (.bool false)], args := [d1, d2] }
  | _ => none }
def InflateMoreWrongFalsely : Prop := inflateMoreRow.holds Tryd.pinned (OpenSpec.ofChange inflateMoreWrong)

/-- 'fairleadlaw18.InflatePackets': WHATEVER THE INPUT: true; the input reads as it did. -/
def inflatePacketsSpec : ChangeSpec := { name := "inflatePackets", fn := fun _ => fun
  | [d] => { results := [.lit (.bool true)], args := [d] }
  | _ => none }
def inflatePacketsRow : OpenClaim := { program := "ytgmopcbfgcagaaadoor", sum := "d933a49b4ef82bba8febd507a58883adcb1bb1c4fab906bb6a17ab13b215b88a", func := "fairlead/fairleadlaw18.InflatePackets", spec := "inflatePackets", inPlace := ["internal/reflectlite.ValueOf", "(internal/reflectlite.Value).Type", "(internal/reflectlite.Value).IsNil", "internal/reflectlite.TypeOf", "(internal/reflectlite.Value).Elem", "(internal/reflectlite.Value).Set"], unfollowed := true, recurses := true, named := ["errors.errorType"], apart := false, laid := [("errors.errorType", laid_errors_errorType)] }
def InflatePacketsSaid : Prop := inflatePacketsRow.holds Tryd.pinned (OpenSpec.ofChange inflatePacketsSpec)

/-- ITS FALSE NEIGHBOUR: 'it returns false'. Refute it at one input. -/
def inflatePacketsWrong : ChangeSpec := { name := "inflatePackets", fn := fun _ => fun
  | [d] => { results := [.lit (.bool false)], args := [d] }
  | _ => none }
def InflatePacketsWrongFalsely : Prop := inflatePacketsRow.holds Tryd.pinned (OpenSpec.ofChange inflatePacketsWrong)

/- THE SECOND FORM. 'bulk': how many values and letters a reading holds, each counted each time it is reached (what is shared counts as often as it is met; a slice's spare places count too). A statement '..UptoSaid' is the law's where the arguments, and the package variables that the reading takes, are together of bulk at most 1048576: NARROWER than '..Said'. Prove '..Said' where nothing that the law and all that it calls make is longer than what came in: it says more and counts as full. Else prove '..UptoSaid'. A law counts once. -/
mutual
def uptoBulk {H : Type} : DataW H → Nat
  | .lit (.string bytes) => bytes.length + 1
  | .lit _ => 1
  | .nil => 1
  | .ptr d => uptoBulk d + 1
  | .slice elems spare => uptoBulkAll elems + uptoBulkAll spare + 1
  | .agg parts => uptoBulkAll parts + 1
  | .iface _ d => uptoBulk d + 1
  | .map entries => uptoBulkEntries entries + 1
  | .held _ => 1
def uptoBulkAll {H : Type} : List (DataW H) → Nat
  | [] => 0
  | d :: r => uptoBulk d + uptoBulkAll r
def uptoBulkEntries {H : Type} : List (Lit × DataW H) → Nat
  | [] => 0
  | x :: r => uptoBulkEntry x + uptoBulkEntries r
def uptoBulkEntry {H : Type} : Lit × DataW H → Nat
  | (.string bytes, d) => bytes.length + uptoBulk d + 1
  | (_, d) => uptoBulk d + 1
 end
def uptoSmall : (H : Type) → List (DataW H) → Bool := fun _ ds => decide (uptoBulkAll ds ≤ 1048576)
def OpenSpec.upto (s : _root_.Go.ChangeSpec) : _root_.Go.OpenSpec := { _root_.Go.OpenSpec.ofChange s with cond := some uptoSmall }

/-- 'fairleadlaw18.InflateStored', WHERE WHAT IT READS IS OF BULK AT MOST 1048576: true; the input reads as it did. -/
def inflateStoredUptoRow : OpenClaim := { program := "ytgmopcbfgcagaaadoor", sum := "d933a49b4ef82bba8febd507a58883adcb1bb1c4fab906bb6a17ab13b215b88a", func := "fairlead/fairleadlaw18.InflateStored", spec := "inflateStored", inPlace := ["internal/reflectlite.ValueOf", "(internal/reflectlite.Value).Type", "(internal/reflectlite.Value).IsNil", "internal/reflectlite.TypeOf", "(internal/reflectlite.Value).Elem", "(internal/reflectlite.Value).Set"], unfollowed := true, recurses := true, named := ["errors.errorType"], apart := false, laid := [("errors.errorType", laid_errors_errorType)], narrowed := true }
def InflateStoredUptoSaid : Prop := inflateStoredUptoRow.holds Tryd.pinned (OpenSpec.upto inflateStoredSpec)

/-- 'fairleadlaw18.InflateCuts', WHERE WHAT IT READS IS OF BULK AT MOST 1048576: true; the input reads as it did. -/
def inflateCutsUptoRow : OpenClaim := { program := "ytgmopcbfgcagaaadoor", sum := "d933a49b4ef82bba8febd507a58883adcb1bb1c4fab906bb6a17ab13b215b88a", func := "fairlead/fairleadlaw18.InflateCuts", spec := "inflateCuts", inPlace := ["internal/reflectlite.ValueOf", "(internal/reflectlite.Value).Type", "(internal/reflectlite.Value).IsNil", "internal/reflectlite.TypeOf", "(internal/reflectlite.Value).Elem", "(internal/reflectlite.Value).Set"], unfollowed := true, recurses := true, named := ["errors.errorType"], apart := false, laid := [("errors.errorType", laid_errors_errorType)], narrowed := true }
def InflateCutsUptoSaid : Prop := inflateCutsUptoRow.holds Tryd.pinned (OpenSpec.upto inflateCutsSpec)

/-- 'fairleadlaw18.InflateKnown', WHERE WHAT IT READS IS OF BULK AT MOST 1048576: true; the input reads as it did. -/
def inflateKnownUptoRow : OpenClaim := { program := "ytgmopcbfgcagaaadoor", sum := "d933a49b4ef82bba8febd507a58883adcb1bb1c4fab906bb6a17ab13b215b88a", func := "fairlead/fairleadlaw18.InflateKnown", spec := "inflateKnown", inPlace := ["internal/reflectlite.ValueOf", "(internal/reflectlite.Value).Type", "(internal/reflectlite.Value).IsNil", "internal/reflectlite.TypeOf", "(internal/reflectlite.Value).Elem", "(internal/reflectlite.Value).Set"], unfollowed := true, recurses := true, named := ["errors.errorType"], apart := false, laid := [("errors.errorType", laid_errors_errorType)], narrowed := true }
def InflateKnownUptoSaid : Prop := inflateKnownUptoRow.holds Tryd.pinned (OpenSpec.upto inflateKnownSpec)

/-- 'fairleadlaw18.InflateMore', WHERE WHAT IT READS IS OF BULK AT MOST 1048576: true; the input reads as it did. -/
def inflateMoreUptoRow : OpenClaim := { program := "ytgmopcbfgcagaaadoor", sum := "d933a49b4ef82bba8febd507a58883adcb1bb1c4fab906bb6a17ab13b215b88a", func := "fairlead/fairleadlaw18.InflateMore", spec := "inflateMore", inPlace := ["internal/reflectlite.ValueOf", "(internal/reflectlite.Value).Type", "(internal/reflectlite.Value).IsNil", "internal/reflectlite.TypeOf", "(internal/reflectlite.Value).Elem", "(internal/reflectlite.Value).Set"], unfollowed := true, recurses := true, named := ["errors.errorType"], apart := false, laid := [("errors.errorType", laid_errors_errorType)], narrowed := true }
def InflateMoreUptoSaid : Prop := inflateMoreUptoRow.holds Tryd.pinned (OpenSpec.upto inflateMoreSpec)

/-- 'fairleadlaw18.InflatePackets', WHERE WHAT IT READS IS OF BULK AT MOST 1048576: true; the input reads as it did. -/
def inflatePacketsUptoRow : OpenClaim := { program := "ytgmopcbfgcagaaadoor", sum := "d933a49b4ef82bba8febd507a58883adcb1bb1c4fab906bb6a17ab13b215b88a", func := "fairlead/fairleadlaw18.InflatePackets", spec := "inflatePackets", inPlace := ["internal/reflectlite.ValueOf", "(internal/reflectlite.Value).Type", "(internal/reflectlite.Value).IsNil", "internal/reflectlite.TypeOf", "(internal/reflectlite.Value).Elem", "(internal/reflectlite.Value).Set"], unfollowed := true, recurses := true, named := ["errors.errorType"], apart := false, laid := [("errors.errorType", laid_errors_errorType)], narrowed := true }
def InflatePacketsUptoSaid : Prop := inflatePacketsUptoRow.holds Tryd.pinned (OpenSpec.upto inflatePacketsSpec)

end Rows
end Go.Proofs.YtgmopcbfgcagaaaDoor
