/-
  NARROWER THAN 'FOR EVERY INPUT', by the rows' own cells (each row's printed sentence says how): GateWires: laid · GateKnown: laid · GateLooks: laid · GateParts: laid.
  DERIVED. THE GIVEN ROWS OF THIS SEAT. 4 by the template 'for every input the law returns true; each argument reads behind the call as it read before'; 0 by the template 'total and deterministic' (their statements: YtpofkhjkdkkajaaDoorTotals.lean).
  GIVEN WITH THE SEED: the statements are not yours to turn. If you find one false, say at which input.
  Laid BY PROGRAM, IN A SANDBOX (cutbox-rows.mjs): the forced cells as the released guide's own fill.sh prints them over the translation ef88aca0bc99bfd9… (all of the seat's roots in one cut). By AI agents, Wed Nov 11 2026. No macro, syntax, notation, axiom, sorry.
-/
import Derived.Test.YtpofkhjkdkkajaaDoorChecked
import GoSem.Claim
import GoSem.ClaimJoined
import GoSem.ClaimMapViews
import Derived.JoinedTies
import Derived.KernelRfl
namespace Go.Proofs.YtpofkhjkdkkajaaDoor
/- THE CELL 'sum', in the pinned program and in every row, IS THE sha256 OF THE DUMP (.gsa) THAT YtpofkhjkdkkajaaDoorProg.lean LOADS. Nothing in Lean hashes anything: it is a label: what it is worth is what the hold of that sum in a sandbox is worth. -/
noncomputable def Tryd.pinned : Pinned := { name := "ytpofkhjkdkkajaadoor", sum := "ef88aca0bc99bfd9c232bded8fa73df2075604c1a599b8e1a589ef3441ae0329", checked := Tryd.checked }
namespace Rows
def none {H : Type} : Left H := { results := [], args := [] }

/- WHAT THE LISTED PACKAGE-LEVEL VARIABLES READ AS WHEN THE CALL BEGINS. Each datum BY PROGRAM (the guide's laid-datum.mjs) off the statement by which the dump's own 'gosem.cut.vars' lays the variable. In a bare row this is a premise. The card (YtpofkhjkdkkajaaDoorCards.lean) ties it to the program's text. -/
def laid_errors_errorType {H : Type} : DataW H := .iface "internal/reflectlite.rtype" (.agg [.ptr (.lit (.string [101, 114, 114, 111, 114]))])

/-- 'fairleadlaw26.GateWires': WHATEVER THE INPUT: true; the input reads as it did. -/
def gateWiresSpec : ChangeSpec := { name := "gateWires", fn := fun _ => fun
  | [d1, d2, d3] => { results := [.lit (.bool true)], args := [d1, d2, d3] }
  | _ => none }
def gateWiresRow : OpenClaim := { program := "ytpofkhjkdkkajaadoor", sum := "ef88aca0bc99bfd9c232bded8fa73df2075604c1a599b8e1a589ef3441ae0329", func := "fairlead/fairleadlaw26.GateWires", spec := "gateWires", inPlace := ["internal/reflectlite.ValueOf", "(internal/reflectlite.Value).Type", "(internal/reflectlite.Value).IsNil", "internal/reflectlite.TypeOf", "(internal/reflectlite.Value).Elem", "(internal/reflectlite.Value).Set"], unfollowed := true, recurses := true, named := ["errors.errorType"], apart := false, laid := [("errors.errorType", laid_errors_errorType)] }
def GateWiresSaid : Prop := gateWiresRow.holds Tryd.pinned (OpenSpec.ofChange gateWiresSpec)

/-- ITS FALSE NEIGHBOUR: 'it returns false'. Refute it at one input. -/
def gateWiresWrong : ChangeSpec := { name := "gateWires", fn := fun _ => fun
  | [d1, d2, d3] => { results := [.lit (.bool false)], args := [d1, d2, d3] }
  | _ => none }
def GateWiresWrongFalsely : Prop := gateWiresRow.holds Tryd.pinned (OpenSpec.ofChange gateWiresWrong)

/-- 'fairleadlaw26.GateKnown': WHATEVER THE INPUT: true; the input reads as it did. -/
def gateKnownSpec : ChangeSpec := { name := "gateKnown", fn := fun _ => fun
  | [] => { results := [.lit (.bool true)], args := [] }
  | _ => none }
def gateKnownRow : OpenClaim := { program := "ytpofkhjkdkkajaadoor", sum := "ef88aca0bc99bfd9c232bded8fa73df2075604c1a599b8e1a589ef3441ae0329", func := "fairlead/fairleadlaw26.GateKnown", spec := "gateKnown", inPlace := ["internal/reflectlite.ValueOf", "(internal/reflectlite.Value).Type", "(internal/reflectlite.Value).IsNil", "internal/reflectlite.TypeOf", "(internal/reflectlite.Value).Elem", "(internal/reflectlite.Value).Set"], unfollowed := true, recurses := true, named := ["errors.errorType"], apart := false, laid := [("errors.errorType", laid_errors_errorType)] }
def GateKnownSaid : Prop := gateKnownRow.holds Tryd.pinned (OpenSpec.ofChange gateKnownSpec)

/-- ITS FALSE NEIGHBOUR: 'it returns false'. Refute it at one input. -/
def gateKnownWrong : ChangeSpec := { name := "gateKnown", fn := fun _ => fun
  | [] => { results := [.lit (.bool false)], args := [] }
  | _ => none }
def GateKnownWrongFalsely : Prop := gateKnownRow.holds Tryd.pinned (OpenSpec.ofChange gateKnownWrong)

/-- 'fairleadlaw26.GateLooks': WHATEVER THE INPUT: true; the input reads as it did. -/
def gateLooksSpec : ChangeSpec := { name := "gateLooks", fn := fun _ => fun
  | [d1, d2] => { results := [.lit (.bool true)], args := [d1, d2] }
  | _ => none }
def gateLooksRow : OpenClaim := { program := "ytpofkhjkdkkajaadoor", sum := "ef88aca0bc99bfd9c232bded8fa73df2075604c1a599b8e1a589ef3441ae0329", func := "fairlead/fairleadlaw26.GateLooks", spec := "gateLooks", inPlace := ["internal/reflectlite.ValueOf", "(internal/reflectlite.Value).Type", "(internal/reflectlite.Value).IsNil", "internal/reflectlite.TypeOf", "(internal/reflectlite.Value).Elem", "(internal/reflectlite.Value).Set"], unfollowed := true, recurses := true, named := ["errors.errorType"], apart := false, laid := [("errors.errorType", laid_errors_errorType)] }
def GateLooksSaid : Prop := gateLooksRow.holds Tryd.pinned (OpenSpec.ofChange gateLooksSpec)

/-- ITS FALSE NEIGHBOUR: 'it returns false'. Refute it at one input. -/
def gateLooksWrong : ChangeSpec := { name := "gateLooks", fn := fun _ => fun
  | [d1, d2] => { results := [.lit (.bool false)], args := [d1, d2] }
  | _ => none }
def GateLooksWrongFalsely : Prop := gateLooksRow.holds Tryd.pinned (OpenSpec.ofChange gateLooksWrong)

/-- 'fairleadlaw26.GateParts': WHATEVER THE INPUT: true; the input reads as it did. -/
def gatePartsSpec : ChangeSpec := { name := "gateParts", fn := fun _ => fun
  | [d1, d2, d3] => { results := [.lit (.bool true)], args := [d1, d2, d3] }
  | _ => none }
def gatePartsRow : OpenClaim := { program := "ytpofkhjkdkkajaadoor", sum := "ef88aca0bc99bfd9c232bded8fa73df2075604c1a599b8e1a589ef3441ae0329", func := "fairlead/fairleadlaw26.GateParts", spec := "gateParts", inPlace := ["internal/reflectlite.ValueOf", "(internal/reflectlite.Value).Type", "(internal/reflectlite.Value).IsNil", "internal/reflectlite.TypeOf", "(internal/reflectlite.Value).Elem", "(internal/reflectlite.Value).Set"], unfollowed := true, recurses := true, named := ["errors.errorType"], apart := false, laid := [("errors.errorType", laid_errors_errorType)] }
def GatePartsSaid : Prop := gatePartsRow.holds Tryd.pinned (OpenSpec.ofChange gatePartsSpec)

/-- ITS FALSE NEIGHBOUR: 'it returns false'. Refute it at one input. -/
def gatePartsWrong : ChangeSpec := { name := "gateParts", fn := fun _ => fun
  | [d1, d2, d3] => { results := [.lit (.bool false)], args := [d1, d2, d3] }
  | _ => none }
def GatePartsWrongFalsely : Prop := gatePartsRow.holds Tryd.pinned (OpenSpec.ofChange gatePartsWrong)

/- THE SECOND FORM. 'bulk': how many values and letters a reading holds, each counted each time it is reached (what is shared counts as often as it is met; a slice's spare places count too). A statement '..UptoSaid' is the law's where the arguments, and the package variables that the reading takes, are together of bulk at most 1048576: NARROWER than '..Said'. Prove '..Said' where nothing that the law and all that it calls make is longer than what came in: it says more and counts as full. Else prove '..UptoSaid'. A law counts once. -/
mutual
def uptoBulk {H : Type} : DataW H → Nat
  | .lit (.string bytes) => bytes.length + 1
  | .lit _ => 1
  | .nil => 1
  | .ptr d => uptoBulk d + 1
  | .slice elems spare => uptoBulkAll elems + uptoBulkAll spare + 1
  | .agg parts => uptoBulkAll parts + 1
  | .iface _ d => uptoBulk d + 1
  | .map entries => uptoBulkEntries entries + 1
  | .held _ => 1
def uptoBulkAll {H : Type} : List (DataW H) → Nat
  | [] => 0
  | d :: r => uptoBulk d + uptoBulkAll r
def uptoBulkEntries {H : Type} : List (Lit × DataW H) → Nat
  | [] => 0
  | x :: r => uptoBulkEntry x + uptoBulkEntries r
def uptoBulkEntry {H : Type} : Lit × DataW H → Nat
  | (.string bytes, d) => bytes.length + uptoBulk d + 1
  | (_, d) => uptoBulk d + 1
 end
def uptoSmall : (H : Type) → List (DataW H) → Bool := fun _ ds => decide (uptoBulkAll ds ≤ 1048576)
def OpenSpec.upto (s : _root_.Go.ChangeSpec) : _root_.Go.OpenSpec := { _root_.Go.OpenSpec.ofChange s with cond := some uptoSmall }

/-- 'fairleadlaw26.GateWires', WHERE WHAT IT READS IS OF BULK AT MOST 1048576: true; the input reads as it did. -/
def gateWiresUptoRow : OpenClaim := { program := "ytpofkhjkdkkajaadoor", sum := "ef88aca0bc99bfd9c232bded8fa73df2075604c1a599b8e1a589ef3441ae0329", func := "fairlead/fairleadlaw26.GateWires", spec := "gateWires", inPlace := ["internal/reflectlite.ValueOf", "(internal/reflectlite.Value).Type", "(internal/reflectlite.Value).IsNil", "internal/reflectlite.TypeOf", "(internal/reflectlite.Value).Elem", "(internal/reflectlite.Value).Set"], unfollowed := true, recurses := true, named := ["errors.errorType"], apart := false, laid := [("errors.errorType", laid_errors_errorType)], narrowed := true }
def GateWiresUptoSaid : Prop := gateWiresUptoRow.holds Tryd.pinned (OpenSpec.upto gateWiresSpec)

/-- 'fairleadlaw26.GateKnown', WHERE WHAT IT READS IS OF BULK AT MOST 1048576: true; the input reads as it did. -/
def gateKnownUptoRow : OpenClaim := { program := "ytpofkhjkdkkajaadoor", sum := "ef88aca0bc99bfd9c232bded8fa73df2075604c1a599b8e1a589ef3441ae0329", func := "fairlead/fairleadlaw26.GateKnown", spec := "gateKnown", inPlace := ["internal/reflectlite.ValueOf", "(internal/reflectlite.Value).Type", "(internal/reflectlite.Value).IsNil", "internal/reflectlite.TypeOf", "(internal/reflectlite.Value).Elem", "(internal/reflectlite.Value).Set"], unfollowed := true, recurses := true, named := ["errors.errorType"], apart := false, laid := [("errors.errorType", laid_errors_errorType)], narrowed := true }
def GateKnownUptoSaid : Prop := gateKnownUptoRow.holds Tryd.pinned (OpenSpec.upto gateKnownSpec)

/-- 'fairleadlaw26.GateLooks', WHERE WHAT IT READS IS OF BULK AT MOST 1048576: true; the input reads as it did. -/
def gateLooksUptoRow : OpenClaim := { program := "ytpofkhjkdkkajaadoor", sum := "ef88aca0bc99bfd9c232bded8fa73df2075604c1a599b8e1a589ef3441ae0329", func := "fairlead/fairleadlaw26.GateLooks", spec := "gateLooks", inPlace := ["internal/reflectlite.ValueOf", "(internal/reflectlite.Value).Type", "(internal/reflectlite.Value).IsNil", "internal/reflectlite.TypeOf", "(internal/reflectlite.Value).Elem", "(internal/reflectlite.Value).Set"], unfollowed := true, recurses := true, named := ["errors.errorType"], apart := false, laid := [("errors.errorType", laid_errors_errorType)], narrowed := true }
def GateLooksUptoSaid : Prop := gateLooksUptoRow.holds Tryd.pinned (OpenSpec.upto gateLooksSpec)

/-- 'fairleadlaw26.GateParts', WHERE WHAT IT READS IS OF BULK AT MOST 1048576: true; the input reads as it did. -/
def gatePartsUptoRow : OpenClaim := { program := "ytpofkhjkdkkajaadoor", sum := "ef88aca0bc99bfd9c232bded8fa73df2075604c1a599b8e1a589ef3441ae0329", func := "fairlead/fairleadlaw26.GateParts", spec := "gateParts", inPlace := ["internal/reflectlite.ValueOf", "(internal/reflectlite.Value).Type", "(internal/reflectlite.Value).IsNil", "internal/reflectlite.TypeOf", "(internal/reflectlite.Value).Elem", "(internal/reflectlite.Value).Set"], unfollowed := true, recurses := true, named := ["errors.errorType"], apart := false, laid := [("errors.errorType", laid_errors_errorType)], narrowed := true }
def GatePartsUptoSaid : Prop := gatePartsUptoRow.holds Tryd.pinned (OpenSpec.upto gatePartsSpec)

end Rows
end Go.Proofs.YtpofkhjkdkkajaaDoor
