/-
  errors.Is of what this program hands it: nil, or an *api.Fault around an api.Errno; the target an api.Errno. (After the kit's worked text SentryIs.)
-/
import Derived.Test.YtififgodhnelgaaVm
import Derived.LaidEql
import Derived.Lib.IfaceEq
import Derived.Stop.Asserts
import Derived.RowKitTokens
namespace Go.Proofs.Ytififgodhnelgaa
open Go.RowKit Go.Extern.Stop Go.Stop Go.Extern

abbrev TErr : TypeId := 60
abbrev TErrno : TypeId := 26
abbrev TFltP : TypeId := 93
abbrev TFlt : TypeId := 95

theorem Er.typeOf (v : Value) (w : World) : (Extern.ReflectliteType.typeOf #[.iface TErrno v]).run Try.prog w = .ok (.iface 104 (.agg #[.pointer (some ⟨0, TErrno, none⟩)])) w := by kernel_rfl
theorem Er.isComparable (w : World) : ((Extern.ReflectliteType.method fun t => do Rtype.noPackHeld "Comparable" t; pure (.bool (← typeInfo t).comparable)) #[.agg #[.pointer (some ⟨0, TErrno, none⟩)]]).run Try.prog w = .ok (.bool true) w := by kernel_rfl
theorem Er.methodComparable (v : Value) (w : World) : (Go.method 247 104 v "Comparable").run Try.prog w = .ok (92, v) w := by kernel_rfl
theorem Er.comp : (Try.prog.info? TErrno).map (·.comparable) = some true := by kernel_rfl
theorem Er.noIsE (v : Value) (xT : TypeId) (w : World) : (Instr.typeAssert (.iface TErrno v) xT 106 true).run Try.prog w = .ok (.tuple #[.nilIface, .bool false]) w := run_typeAssert_lacksB Try.underlying106 (by kernel_rfl) (by kernel_rfl) v xT w
theorem Er.noUnwrapE (v : Value) (xT : TypeId) (w : World) : (Instr.typeAssert (.iface TErrno v) xT 109 true).run Try.prog w = .ok (.tuple #[.nilIface, .bool false]) w := run_typeAssert_lacksB Try.underlying109 (by kernel_rfl) (by kernel_rfl) v xT w
theorem Er.noUnwrapsE (v : Value) (xT : TypeId) (w : World) : (Instr.typeAssert (.iface TErrno v) xT 111 true).run Try.prog w = .ok (.tuple #[.nilIface, .bool false]) w := run_typeAssert_lacksB Try.underlying111 (by kernel_rfl) (by kernel_rfl) v xT w
theorem Er.noIsW (v : Value) (xT : TypeId) (w : World) : (Instr.typeAssert (.iface TFltP v) xT 106 true).run Try.prog w = .ok (.tuple #[.nilIface, .bool false]) w := run_typeAssert_lacksB Try.underlying106 (by kernel_rfl) (by kernel_rfl) v xT w
theorem Er.hasUnwrapW (v : Value) (xT : TypeId) (w : World) : (Instr.typeAssert (.iface TFltP v) xT 109 true).run Try.prog w = .ok (.tuple #[.iface TFltP v, .bool true]) w := run_typeAssert_hasB Try.underlying109 (by kernel_rfl) v xT w
theorem Er.methodUnwrap (v : Value) (w : World) : (Go.method 247 TFltP v "Unwrap").run Try.prog w = .ok (88, v) w := by kernel_rfl

theorem Er.is_nil (k : Int) (w : World) :
    Calls Try.prog 52 #[.nilIface, .iface TErrno (.int .i64 k)] w fun e w' => e = .returned (.bool false) ∧ w' = w := by
  have hn := run_eql_iface_nil_left (P := Try.prog) w TErrno (.int .i64 k) Try.underlying60
  go_enter Try.func52, Try.ntmps52
  go_wp2
  go_ret
  exact ⟨rfl, rfl⟩

theorem Er.callTypeOf (v : Value) (w : World) : (callFunc 63 #[.iface TErrno v]).run Try.prog w = .ok (.value (.iface 104 (.agg #[.pointer (some ⟨0, TErrno, none⟩)]))) w := by
  rw [@run_callFunc_extern Try.prog 63 _ Extern.ReflectliteType.typeOf Try.func63 (by kernel_rfl) (by kernel_rfl) (by kernel_rfl) (by kernel_rfl), Er.typeOf]
  rfl
theorem Er.callComparable (w : World) : (callFunc 92 #[.agg #[.pointer (some ⟨0, TErrno, none⟩)]]).run Try.prog w = .ok (.value (.bool true)) w := by
  rw [@run_callFunc_extern Try.prog 92 _ (Extern.ReflectliteType.method fun t => do Rtype.noPackHeld "Comparable" t; pure (.bool (← typeInfo t).comparable)) Try.func92 (by kernel_rfl) (by kernel_rfl) (by kernel_rfl) (by kernel_rfl), Er.isComparable]
  rfl

/-- errors.Is(fault, errno): is it the errno in it? -/
theorem Er.is_fault (b : Nat) (n k : Int) (w : World) (h1 : w.cell? ⟨b, 1, none⟩ = some (.int .i64 n)) :
    Calls Try.prog 52 #[.iface TFltP (.pointer (some ⟨b, 0, none⟩)), .iface TErrno (.int .i64 k)] w fun e w' => e = .returned (.bool (n == k)) ∧ w' = w := by
  have h8 := Er.callTypeOf
  have h32 := Er.callComparable
  have mR := Er.methodComparable
  have nE := Er.noIsE
  have uE := Er.noUnwrapE
  have vE := Er.noUnwrapsE
  have nW := Er.noIsW
  have uW := Er.hasUnwrapW
  have mU := Er.methodUnwrap
  have heq := Go.Lib.run_eql_iface_int (P := Try.prog) w (k := .i64) n k Try.underlying60 Er.comp Try.underlying26
  have hty := run_eql_iface_types (P := Try.prog) TFltP TErrno (.pointer (some ⟨b, 0, none⟩)) (.int .i64 k) Try.underlying60 (by decide) w
  by_cases hnk : n = k
  · subst hnk
    rw [show (n == n) = true from by simp] at heq ⊢
    go_enter Try.func52, Try.ntmps52
    go_wp2
    refine wp_loop_rounds 2 ?_
    rw [rounds_succ]
    go_wp2
    rw [rounds_succ]
    go_wp2
    go_ret
    exact ⟨rfl, rfl⟩
  · rw [show (n == k) = false from by simpa using hnk] at heq ⊢
    go_enter Try.func52, Try.ntmps52
    go_wp2
    refine wp_loop_rounds 2 ?_
    rw [rounds_succ]
    go_wp2
    rw [rounds_succ]
    go_wp2
    go_ret
    exact ⟨rfl, rfl⟩
end Go.Proofs.Ytififgodhnelgaa
