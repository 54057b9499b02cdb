/-
  errors.Is of what this program hands it: nil, or an *api.Fault around an api.Errno; the target an api.Errno. (After the kit's worked text SentryIs.)
-/
import Derived.Test.YtpofkhjkdkkajaaDoorVm
import Derived.LaidEql
import Derived.Lib.IfaceEq
import Derived.Stop.Asserts
import Derived.RowKitTokens
namespace Go.Proofs.YtpofkhjkdkkajaaDoor.Pk
open Go.RowKit Go.Extern.Stop Go.Stop Go.Extern

abbrev TErr : TypeId := 97
abbrev TErrno : TypeId := 54
abbrev TFltP : TypeId := 109
abbrev TFlt : TypeId := 113

theorem Er.typeOf (v : Value) (w : World) : (Extern.ReflectliteType.typeOf #[.iface TErrno v]).run Tryd.prog w = .ok (.iface 132 (.agg #[.pointer (some ⟨1, TErrno, none⟩)])) w := by kernel_rfl
theorem Er.isComparable (w : World) : ((Extern.ReflectliteType.method fun t => do Rtype.noPackHeld "Comparable" t; pure (.bool (← typeInfo t).comparable)) #[.agg #[.pointer (some ⟨1, TErrno, none⟩)]]).run Tryd.prog w = .ok (.bool true) w := by kernel_rfl
theorem Er.methodComparable (v : Value) (w : World) : (Go.method 274 132 v "Comparable").run Tryd.prog w = .ok (94, v) w := by kernel_rfl
theorem Er.comp : (Tryd.prog.info? TErrno).map (·.comparable) = some true := by kernel_rfl
theorem Er.noIsE (v : Value) (xT : TypeId) (w : World) : (Instr.typeAssert (.iface TErrno v) xT 144 true).run Tryd.prog w = .ok (.tuple #[.nilIface, .bool false]) w := run_typeAssert_lacksB Tryd.underlying144 (by kernel_rfl) (by kernel_rfl) v xT w
theorem Er.noUnwrapE (v : Value) (xT : TypeId) (w : World) : (Instr.typeAssert (.iface TErrno v) xT 139 true).run Tryd.prog w = .ok (.tuple #[.nilIface, .bool false]) w := run_typeAssert_lacksB Tryd.underlying139 (by kernel_rfl) (by kernel_rfl) v xT w
theorem Er.noUnwrapsE (v : Value) (xT : TypeId) (w : World) : (Instr.typeAssert (.iface TErrno v) xT 141 true).run Tryd.prog w = .ok (.tuple #[.nilIface, .bool false]) w := run_typeAssert_lacksB Tryd.underlying141 (by kernel_rfl) (by kernel_rfl) v xT w
theorem Er.noIsW (v : Value) (xT : TypeId) (w : World) : (Instr.typeAssert (.iface TFltP v) xT 144 true).run Tryd.prog w = .ok (.tuple #[.nilIface, .bool false]) w := run_typeAssert_lacksB Tryd.underlying144 (by kernel_rfl) (by kernel_rfl) v xT w
theorem Er.hasUnwrapW (v : Value) (xT : TypeId) (w : World) : (Instr.typeAssert (.iface TFltP v) xT 139 true).run Tryd.prog w = .ok (.tuple #[.iface TFltP v, .bool true]) w := run_typeAssert_hasB Tryd.underlying139 (by kernel_rfl) v xT w
theorem Er.methodUnwrap (v : Value) (w : World) : (Go.method 274 TFltP v "Unwrap").run Tryd.prog w = .ok (88, v) w := by kernel_rfl

theorem Er.is_nil (k : Int) (w : World) :
    Calls Tryd.prog 59 #[.nilIface, .iface TErrno (.int .i64 k)] w fun e w' => e = .returned (.bool false) ∧ w' = w := by
  have hn := run_eql_iface_nil_left (P := Tryd.prog) w TErrno (.int .i64 k) Tryd.underlying97
  go_enter Tryd.func59, Tryd.ntmps59
  go_wp2
  go_ret
  exact ⟨rfl, rfl⟩

theorem Er.callTypeOf (v : Value) (w : World) : (callFunc 65 #[.iface TErrno v]).run Tryd.prog w = .ok (.value (.iface 132 (.agg #[.pointer (some ⟨1, TErrno, none⟩)]))) w := by
  rw [@run_callFunc_extern Tryd.prog 65 _ Extern.ReflectliteType.typeOf Tryd.func65 (by kernel_rfl) (by kernel_rfl) (by kernel_rfl) (by kernel_rfl), Er.typeOf]
  rfl
theorem Er.callComparable (w : World) : (callFunc 94 #[.agg #[.pointer (some ⟨1, TErrno, none⟩)]]).run Tryd.prog w = .ok (.value (.bool true)) w := by
  rw [@run_callFunc_extern Tryd.prog 94 _ (Extern.ReflectliteType.method fun t => do Rtype.noPackHeld "Comparable" t; pure (.bool (← typeInfo t).comparable)) Tryd.func94 (by kernel_rfl) (by kernel_rfl) (by kernel_rfl) (by kernel_rfl), Er.isComparable]
  rfl

/-- errors.Is(fault, errno): is it the errno in it? -/
theorem Er.is_fault (b : Nat) (n k : Int) (w : World) (h1 : w.cell? ⟨b, 1, none⟩ = some (.int .i64 n)) :
    Calls Tryd.prog 59 #[.iface TFltP (.pointer (some ⟨b, 0, none⟩)), .iface TErrno (.int .i64 k)] w fun e w' => e = .returned (.bool (n == k)) ∧ w' = w := by
  have h8 := Er.callTypeOf
  have h32 := Er.callComparable
  have mR := Er.methodComparable
  have nE := Er.noIsE
  have uE := Er.noUnwrapE
  have vE := Er.noUnwrapsE
  have nW := Er.noIsW
  have uW := Er.hasUnwrapW
  have mU := Er.methodUnwrap
  have heq := Go.Lib.run_eql_iface_int (P := Tryd.prog) w (k := .i64) n k Tryd.underlying97 Er.comp Tryd.underlying54
  have hty := run_eql_iface_types (P := Tryd.prog) TFltP TErrno (.pointer (some ⟨b, 0, none⟩)) (.int .i64 k) Tryd.underlying97 (by decide) w
  by_cases hnk : n = k
  · subst hnk
    rw [show (n == n) = true from by simp] at heq ⊢
    go_enter Tryd.func59, Tryd.ntmps59
    go_wp2
    refine wp_loop_rounds 2 ?_
    rw [rounds_succ]
    go_wp2
    rw [rounds_succ]
    go_wp2
    go_ret
    exact ⟨rfl, rfl⟩
  · rw [show (n == k) = false from by simpa using hnk] at heq ⊢
    go_enter Tryd.func59, Tryd.ntmps59
    go_wp2
    refine wp_loop_rounds 2 ?_
    rw [rounds_succ]
    go_wp2
    rw [rounds_succ]
    go_wp2
    go_ret
    exact ⟨rfl, rfl⟩
end Go.Proofs.YtpofkhjkdkkajaaDoor.Pk
