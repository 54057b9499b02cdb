/-
  Arithmetic on natural numbers that stand in ints.
-/
import Derived.Test.YtoeijgbjgbgelaaDoorVr
namespace Go.Proofs.YtoeijgbjgbgelaaDoor
open Go V

theorem Keep.andThen {S T : Nat → Prop} {w0 w w' : World} (h0 : Keep S w0 w) (k : Keep T w w') (hs : ∀ i, i < w0.heap.size → T i → S i) : Keep S w0 w' :=
  ⟨k.os.trans h0.os, k.tape.trans h0.tape, k.output.trans h0.output, Nat.le_trans h0.size k.size, fun i hi hS => by
    rw [k.block i (Nat.lt_of_lt_of_le hi h0.size) (fun hT => hS (hs i hi hT)), h0.block i hi hS]⟩
theorem VRes.orNat {N M R : Nat} {a l : Int} {K : Value → Prop} (ha : a = (N : Int)) (hl : l = (M : Int)) (hN : N < 2 ^ 62) (hM : M < 2 ^ 62) (hR : N ||| M = R) (hK : K (.int .i64 (R : Int))) :
    VRes (.int .i64 (IntKind.wrap .i64 ((BitVec.ofInt (IntKind.bits .i64) a ||| BitVec.ofInt (IntKind.bits .i64) l).toNat : Int))) K := by
  subst ha; subst hl; subst hR
  refine VRes.to (congrArg (Value.int .i64) ?_) hK
  show IntKind.wrap .i64 ((BitVec.ofInt 64 (N : Int) ||| BitVec.ofInt 64 (M : Int)).toNat : Int) = _
  rw [BitVec.ofInt_natCast, BitVec.ofInt_natCast, BitVec.toNat_or, BitVec.toNat_ofNat, BitVec.toNat_ofNat, Nat.mod_eq_of_lt (by omega), Nat.mod_eq_of_lt (by omega)]
  have := Nat.or_lt_two_pow hN hM
  exact wrap_i64 (by omega)
theorem VRes.xorNat {N M R : Nat} {a l : Int} {K : Value → Prop} (ha : a = (N : Int)) (hl : l = (M : Int)) (hN : N < 2 ^ 62) (hM : M < 2 ^ 62) (hR : N ^^^ M = R) (hK : K (.int .i64 (R : Int))) :
    VRes (.int .i64 (IntKind.wrap .i64 ((BitVec.ofInt (IntKind.bits .i64) a ^^^ BitVec.ofInt (IntKind.bits .i64) l).toNat : Int))) K := by
  subst ha; subst hl; subst hR
  refine VRes.to (congrArg (Value.int .i64) ?_) hK
  show IntKind.wrap .i64 ((BitVec.ofInt 64 (N : Int) ^^^ BitVec.ofInt 64 (M : Int)).toNat : Int) = _
  rw [BitVec.ofInt_natCast, BitVec.ofInt_natCast, BitVec.toNat_xor, BitVec.toNat_ofNat, BitVec.toNat_ofNat, Nat.mod_eq_of_lt (by omega), Nat.mod_eq_of_lt (by omega)]
  have := Nat.xor_lt_two_pow hN hM
  exact wrap_i64 (by omega)
theorem VRes.andNat {N M R : Nat} {a l : Int} {K : Value → Prop} (ha : a = (N : Int)) (hl : l = (M : Int)) (hN : N < 2 ^ 62) (hM : M < 2 ^ 62) (hR : N &&& M = R) (hK : K (.int .i64 (R : Int))) :
    VRes (.int .i64 (IntKind.wrap .i64 ((BitVec.ofInt (IntKind.bits .i64) a &&& BitVec.ofInt (IntKind.bits .i64) l).toNat : Int))) K := by
  subst ha; subst hl; subst hR
  refine VRes.to (congrArg (Value.int .i64) ?_) hK
  show IntKind.wrap .i64 ((BitVec.ofInt 64 (N : Int) &&& BitVec.ofInt 64 (M : Int)).toNat : Int) = _
  rw [BitVec.ofInt_natCast, BitVec.ofInt_natCast, BitVec.toNat_and, BitVec.toNat_ofNat, BitVec.toNat_ofNat, Nat.mod_eq_of_lt (by omega), Nat.mod_eq_of_lt (by omega)]
  have : N &&& M ≤ N := Nat.and_le_left
  exact wrap_i64 (by omega)
/-- A shift left of a natural number. -/
theorem VRes.shlNat {N s : Nat} {a l : Int} {K : Value → Prop} (ha : a = (N : Int)) (hl : l = (s : Int)) (hs : s ≤ 64) (hR : N * 2 ^ s < 2 ^ 62) (hK : K (.int .i64 ((N * 2 ^ s : Nat) : Int))) :
    VRes (.int .i64 (IntKind.wrap .i64 (a * 2 ^ (min l.toNat (IntKind.bits .i64))))) K := by
  subst ha; subst hl
  refine VRes.to (congrArg (Value.int .i64) ?_) hK
  have e : min (Int.toNat (s : Int)) (IntKind.bits .i64) = s := by
    have : IntKind.bits .i64 = 64 := rfl
    rw [this, Int.toNat_natCast]; omega
  rw [e]
  have e2 : (N : Int) * 2 ^ s = ((N * 2 ^ s : Nat) : Int) := by simp
  rw [e2]
  exact wrap_i64 (by omega)


theorem all_bytes {p : UInt8 → Bool} (h : (List.range 256).all (fun c => p (UInt8.ofNat c)) = true) (c : UInt8) : p c = true := by
  have := List.all_eq_true.1 h c.toNat (List.mem_range.2 c.toNat_lt)
  simpa using this
/-- The two highest bits of a byte. -/
theorem VRes.top2 {x : UInt8} {a l : Int} {K : Value → Prop} (ha : a = (x.toNat : Int)) (hl : l = 192) (hK : K (.int .u8 ((x.toNat / 64 * 64 : Nat) : Int))) :
    VRes (.int .u8 (IntKind.wrap .u8 ((BitVec.ofInt (IntKind.bits .u8) a &&& BitVec.ofInt (IntKind.bits .u8) l).toNat : Int))) K := by
  subst ha; subst hl
  have h := all_bytes (p := fun x => (x &&& 192).toNat == x.toNat / 64 * 64) (by decide +kernel) x
  have h : (x &&& 192).toNat = x.toNat / 64 * 64 := by simpa using h
  have e : (BitVec.ofInt 8 (192 : Int)) = (192 : UInt8).toBitVec := by decide
  refine VRes.to (congrArg (Value.int .u8) ?_) hK
  show IntKind.wrap .u8 ((BitVec.ofInt 8 (x.toNat : Int) &&& BitVec.ofInt 8 192).toNat : Int) = _
  rw [ofInt_toNat8, e, ← UInt8.toBitVec_and, wrap_nat8, ← h]
  have := (x &&& 192).toNat_lt
  congr 1
  show (x &&& 192).toNat % 256 = _
  omega
/-- The lowest bits of a natural number. -/
theorem VRes.maskNat {N k : Nat} {a l : Int} {K : Value → Prop} (ha : a = (N : Int)) (hl : l = ((2 ^ k - 1 : Nat) : Int)) (hN : N < 2 ^ 62) (hk : k ≤ 61) (hK : K (.int .i64 ((N % 2 ^ k : Nat) : Int))) :
    VRes (.int .i64 (IntKind.wrap .i64 ((BitVec.ofInt (IntKind.bits .i64) a &&& BitVec.ofInt (IntKind.bits .i64) l).toNat : Int))) K :=
  VRes.andNat (N := N) (M := 2 ^ k - 1) (R := N % 2 ^ k) ha hl hN (by have : 2 ^ k ≤ 2 ^ 61 := Nat.pow_le_pow_right (by omega) hk; omega) (Nat.and_two_pow_sub_one_eq_mod _ _) hK
end Go.Proofs.YtoeijgbjgbgelaaDoor
