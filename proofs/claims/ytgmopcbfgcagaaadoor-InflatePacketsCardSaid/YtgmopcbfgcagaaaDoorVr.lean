/-
  Two bytes as a number; the lowest bit of a byte.
-/
import Derived.Test.YtgmopcbfgcagaaaDoorVp
namespace Go.Proofs.YtgmopcbfgcagaaaDoor
open Go V

def two (x y : UInt8) : Nat := x.toNat * 256 + y.toNat
theorem two_lt (x y : UInt8) : two x y < 65536 := by unfold two; have := x.toNat_lt; have := y.toNat_lt; omega

theorem VRes.or2 {x y : UInt8} {a b : Int} {K : Value → Prop} (ha : a = (x.toNat * 256 : Nat)) (hb : b = (y.toNat : Int)) (hK : K (.int .i64 (two x y : Nat))) :
    VRes (.int .i64 (IntKind.wrap .i64 ((BitVec.ofInt (IntKind.bits .i64) a ||| BitVec.ofInt (IntKind.bits .i64) b).toNat : Int))) K := by
  subst ha; subst hb
  have hx := x.toNat_lt
  have hy := y.toNat_lt
  refine VRes.to (congrArg (Value.int .i64) ?_) hK
  show IntKind.wrap .i64 ((BitVec.ofInt 64 ((x.toNat * 256 : Nat) : Int) ||| BitVec.ofInt 64 (y.toNat : Int)).toNat : Int) = _
  rw [BitVec.ofInt_natCast, BitVec.ofInt_natCast, BitVec.toNat_or, BitVec.toNat_ofNat, BitVec.toNat_ofNat, Nat.mod_eq_of_lt (by omega), Nat.mod_eq_of_lt (by omega)]
  have e : x.toNat * 256 ||| y.toNat = two x y := by
    have := Nat.shiftLeft_add_eq_or_of_lt (a := x.toNat) (b := y.toNat) (i := 8) (by omega)
    rw [Nat.shiftLeft_eq] at this
    rw [show x.toNat * 256 = x.toNat * 2 ^ 8 from rfl, ← this]
    rfl
  rw [e]
  have := two_lt x y
  exact wrap_i64 (by omega)

theorem VRes.odd8 {x : UInt8} {a b : Int} {K : Value → Prop} (ha : a = (x.toNat : Int)) (hb : b = 1) (hK : K (.int .u8 ((x.toNat % 2 : Nat) : Int))) :
    VRes (.int .u8 (IntKind.wrap .u8 ((BitVec.ofInt (IntKind.bits .u8) a &&& BitVec.ofInt (IntKind.bits .u8) b).toNat : Int))) K := by
  subst ha; subst hb
  refine VRes.to (congrArg (Value.int .u8) ?_) hK
  show IntKind.wrap .u8 ((BitVec.ofInt 8 (x.toNat : Int) &&& BitVec.ofInt 8 ((1 : Nat) : Int)).toNat : Int) = _
  have hx := x.toNat_lt
  rw [BitVec.ofInt_natCast, BitVec.ofInt_natCast, BitVec.toNat_and, BitVec.toNat_ofNat, BitVec.toNat_ofNat, Nat.mod_eq_of_lt (by omega), Nat.mod_eq_of_lt (by omega), Nat.and_one_is_mod, wrap_nat8, Nat.mod_eq_of_lt (by omega)]
theorem VRes.shl8 {x : UInt8} {a l : Int} {K : Value → Prop} (ha : a = (x.toNat : Int)) (hl : l = 8) (hK : K (.int .i64 ((x.toNat * 256 : Nat) : Int))) :
    VRes (.int .i64 (IntKind.wrap .i64 (a * 2 ^ (min l.toNat (IntKind.bits .i64))))) K := by
  subst ha; subst hl
  refine VRes.to (congrArg (Value.int .i64) ?_) hK
  have hx := x.toNat_lt
  show IntKind.wrap .i64 ((x.toNat : Int) * 256) = _
  rw [wrap_i64 (by omega)]
  omega
end Go.Proofs.YtgmopcbfgcagaaaDoor
