/-
  Check sums: the program's and the reference's compute the plain one.
-/
import Derived.Test.YtpofkhjkdkkajaaDoorF1
namespace Go.Proofs.YtpofkhjkdkkajaaDoor
open Go V

def vh (x : BitVec 16) : Value := .int .u16 (x.toNat : Int)
theorem ofInt_toNat16 (x : BitVec 16) : BitVec.ofInt 16 (x.toNat : Int) = x := by
  rw [BitVec.ofInt_natCast]; exact BitVec.eq_of_toNat_eq (by simp)
theorem VRes.and16 {x y : BitVec 16} {a b : Int} {K : Value → Prop} (ha : a = (x.toNat : Int)) (hb : b = (y.toNat : Int)) (hK : K (vh (x &&& y))) :
    VRes (.int .u16 (IntKind.wrap .u16 ((BitVec.ofInt (IntKind.bits .u16) a &&& BitVec.ofInt (IntKind.bits .u16) b).toNat : Int))) K := by
  subst ha; subst hb
  show VRes (.int .u16 (IntKind.wrap .u16 ((BitVec.ofInt 16 (x.toNat : Int) &&& BitVec.ofInt 16 (y.toNat : Int)).toNat : Int))) K
  rw [ofInt_toNat16, ofInt_toNat16, wrap_nat16, Nat.mod_eq_of_lt (BitVec.isLt _)]
  exact ⟨hK⟩
theorem VRes.xor16 {x y : BitVec 16} {a b : Int} {K : Value → Prop} (ha : a = (x.toNat : Int)) (hb : b = (y.toNat : Int)) (hK : K (vh (x ^^^ y))) :
    VRes (.int .u16 (IntKind.wrap .u16 ((BitVec.ofInt (IntKind.bits .u16) a ^^^ BitVec.ofInt (IntKind.bits .u16) b).toNat : Int))) K := by
  subst ha; subst hb
  show VRes (.int .u16 (IntKind.wrap .u16 ((BitVec.ofInt 16 (x.toNat : Int) ^^^ BitVec.ofInt 16 (y.toNat : Int)).toNat : Int))) K
  rw [ofInt_toNat16, ofInt_toNat16, wrap_nat16, Nat.mod_eq_of_lt (BitVec.isLt _)]
  exact ⟨hK⟩
theorem VRes.not16 {x : BitVec 16} {a : Int} {K : Value → Prop} (ha : a = (x.toNat : Int)) (hK : K (vh (~~~x))) :
    VRes (.int .u16 (IntKind.wrap .u16 ((BitVec.ofInt (IntKind.bits .u16) (if IntKind.signed .u16 = true then -1 else IntKind.max .u16) ^^^ BitVec.ofInt (IntKind.bits .u16) a).toNat : Int))) K := by
  subst ha
  have e : BitVec.ofInt 16 (if IntKind.signed .u16 = true then -1 else IntKind.max .u16) = BitVec.allOnes 16 := by decide
  show VRes (.int .u16 (IntKind.wrap .u16 ((BitVec.ofInt 16 (if IntKind.signed .u16 = true then -1 else IntKind.max .u16) ^^^ BitVec.ofInt 16 (x.toNat : Int)).toNat : Int))) K
  rw [e]
  show VRes (.int .u16 (IntKind.wrap .u16 ((BitVec.allOnes 16 ^^^ BitVec.ofInt 16 (x.toNat : Int)).toNat : Int))) K
  rw [ofInt_toNat16, wrap_nat16, Nat.mod_eq_of_lt (BitVec.isLt _), BitVec.allOnes_xor]
  exact ⟨hK⟩
theorem VRes.shr16 {x : BitVec 16} {k : Nat} {a l : Int} {K : Value → Prop} (ha : a = (x.toNat : Int)) (hl : l = (k : Int)) (hk : k ≤ 16) (hK : K (vh (x >>> k))) :
    VRes (.int .u16 (a.fdiv (2 ^ (min l.toNat (IntKind.bits .u16))))) K :=
  VRes.shrN (k := .u16) ha hl hk (by
    have e : ((x.toNat / 2 ^ k : Nat) : Int) = ((x >>> k).toNat : Int) := by rw [BitVec.toNat_ushiftRight, Nat.shiftRight_eq_div_pow]
    rw [e]; exact hK)
theorem VRes.u16 {e : Int} {K : Value → Prop} (h : 0 ≤ e ∧ e ≤ 65535) (hK : K (.int .u16 e)) : VRes (.int .u16 (IntKind.wrap .u16 e)) K := ⟨by rw [wrap_u rfl h.1 (by show e < 65536; omega)]; exact hK⟩

/-! ### The plain sum -/
def cstep (x : BitVec 16) : BitVec 16 := if x &&& 1#16 = 1#16 then (x >>> 1) ^^^ 0x8408#16 else x >>> 1
def csteps : Nat → BitVec 16 → BitVec 16
  | 0, x => x
  | n + 1, x => cstep (csteps n x)
def c16 (c : UInt8) : BitVec 16 := BitVec.ofNat 16 c.toNat
def cbyte (x : BitVec 16) (c : UInt8) : BitVec 16 := csteps 8 (x ^^^ c16 c)
def creg (l : List UInt8) : BitVec 16 := l.foldl cbyte (~~~ 0#16)
def csum (l : List UInt8) : BitVec 16 := ~~~ creg l
theorem creg_snoc (l : List UInt8) (k : Nat) (x : UInt8) (h : l[k]? = some x) : creg (l.take (k + 1)) = cbyte (creg (l.take k)) x := by
  rw [List.take_add_one, h]
  simp [creg]
theorem c16_nat (c : UInt8) : (c16 c).toNat = c.toNat := by
  have := c.toNat_lt
  unfold c16
  rw [BitVec.toNat_ofNat]
  omega
theorem and1_iff (x : BitVec 16) : x &&& 1#16 = 1#16 ↔ ((x &&& 1#16).toNat : Int) = 1 :=
  ⟨fun h => by rw [h]; rfl, fun h => BitVec.eq_of_toNat_eq (by have : (1#16).toNat = 1 := rfl; omega)⟩

theorem sum_ok (w : World) {A : Option Addr} {n c : Nat} {l : List UInt8} (hs : Sl w 1 A n (l.map vb)) (hn : n ≤ 1000000) :
    VC Tryd.prog 60 [.slice A n c, .int .u16 33800] w (fun v w' => v = vh (csum l) ∧ w = w') := by
  have hl : l.length = n := by simpa using hs.len
  refine VC.of tt_ok Tryd.func60 rfl (by decide +kernel) (Nat.le_of_ble_eq_true rfl) ?_; (conv => whnf)
  refine VRes.u16 (by omega) ?_
  (conv => whnf)
  refine VRes.not16 (x := 0#16) rfl ?_
  (conv => whnf)
  refine VLoop.by_ tt_ok (S := Nat) (fun k => [(1, .int .u16 33800), (11, .slice A n c), (12, .int .i64 n), (13, .int .i64 k), (5, vh (creg (l.take k)))]) (fun k w' => k ≤ n ∧ w = w') (fun k => n - k) 0
    ⟨rfl, rfl, rfl, rfl, rfl, trivial⟩ ⟨by omega, rfl⟩ ?_
  rintro k w' ⟨hk, rfl⟩
  (conv => whnf)
  refine VCmp.mk (fun h => ?_) (fun h => ?_) <;> (conv => whnf)
  · obtain ⟨x, hx⟩ : ∃ x, l[k]? = some x := ⟨_, List.getElem?_eq_getElem (by omega)⟩
    have hxd : l.getD k 0 = x := by rw [List.getD_eq_getElem?_getD, hx]; rfl
    refine VIdx.sl (hs) (k) (by first | rfl | omega) (by omega) (fun b_ o_ hA_ hc_ => ?_); (conv => whnf); refine VLoad.by_ hc_ ?_; (conv => whnf)
    rw [hxd]
    have hx8 := x.toNat_lt
    refine VRes.u16 (by omega) ?_
    (conv => whnf)
    refine VRes.xor16 (y := c16 x) rfl (by rw [c16_nat]) ?_
    (conv => whnf)
    refine VLoop.by_ tt_ok (S := Nat) (fun j => [(1, .int .u16 33800), (11, .slice A n c), (12, .int .i64 n), (13, .int .i64 k), (21, .int .i64 j), (5, vh (csteps j (creg (l.take k) ^^^ c16 x)))]) (fun j w' => j ≤ 8 ∧ w = w') (fun j => 8 - j) 0
      ⟨rfl, rfl, rfl, rfl, rfl, rfl, trivial⟩ ⟨by omega, rfl⟩ ?_
    rintro j w' ⟨hj, rfl⟩
    (conv => whnf)
    refine VCmp.mk (fun h8 => ?_) (fun h8 => ?_) <;> (conv => whnf)
    · refine VRes.and16 (y := 1#16) rfl rfl ?_
      (conv => whnf)
      refine VReq.mk (by omega) ?_
      refine VRes.shr16 (k := 1) rfl rfl (by decide) ?_
      (conv => whnf)
      refine VCmp.mk (fun h1 => ?_) (fun h1 => ?_) <;> (conv => whnf)
      · refine VRes.xor16 (y := 0x8408#16) rfl rfl ?_
        (conv => whnf)
        refine VRes.i64 (by omega) ?_; (conv => whnf)
        have e : csteps (j + 1) (creg (l.take k) ^^^ c16 x) = (csteps j (creg (l.take k) ^^^ c16 x) >>> 1) ^^^ 0x8408#16 := by
          show cstep _ = _
          unfold cstep
          rw [if_pos ((and1_iff _).2 h1)]
        exact ⟨j + 1, ⟨rfl, rfl, rfl, rfl, rfl, by rw [e]; rfl, trivial⟩, ⟨by omega, rfl⟩, by omega⟩
      · refine VRes.i64 (by omega) ?_; (conv => whnf)
        have e : csteps (j + 1) (creg (l.take k) ^^^ c16 x) = csteps j (creg (l.take k) ^^^ c16 x) >>> 1 := by
          show cstep _ = _
          unfold cstep
          rw [if_neg (fun h => h1 ((and1_iff _).1 h))]
        exact ⟨j + 1, ⟨rfl, rfl, rfl, rfl, rfl, by rw [e]; rfl, trivial⟩, ⟨by omega, rfl⟩, by omega⟩
    · obtain rfl : j = 8 := by omega
      refine VRes.i64 (by omega) ?_; (conv => whnf)
      exact ⟨k + 1, ⟨rfl, rfl, rfl, rfl, by rw [creg_snoc l k x hx]; rfl, trivial⟩, ⟨by omega, rfl⟩, by omega⟩
  · rw [List.take_of_length_le (by omega)]
    refine VRes.not16 rfl ?_
    (conv => whnf)
    exact ⟨rfl, rfl⟩

theorem sum16_ok (w : World) {A : Option Addr} {n c : Nat} {l : List UInt8} (hs : Sl w 1 A n (l.map vb)) (hn : n ≤ 1000000) :
    VC Tryd.prog 53 [.slice A n c] w (fun v w' => v = vh (csum l) ∧ w = w') := by
  refine VC.of tt_ok Tryd.func53 rfl (by decide +kernel) (Nat.le_of_ble_eq_true rfl) ?_; (conv => whnf)
  refine (sum_ok w hs hn).mono ?_
  rintro v w' ⟨rfl, rfl⟩
  (conv => whnf)
  exact ⟨rfl, rfl⟩

/-! ### The reference's -/
theorem sw_nat (x : BitVec 16) : (x.setWidth 32).toNat = x.toNat := by
  have := x.isLt
  rw [BitVec.toNat_setWidth]
  omega
theorem sw_and1 (x : BitVec 16) : (x.setWidth 32 &&& 1#32).toNat = (x &&& 1#16).toNat := by
  rw [BitVec.toNat_and, BitVec.toNat_and, sw_nat]
  rfl
theorem sw_shr (x : BitVec 16) : x.setWidth 32 >>> 1 = (x >>> 1).setWidth 32 := by
  apply BitVec.eq_of_toNat_eq
  rw [BitVec.toNat_ushiftRight, sw_nat, sw_nat, BitVec.toNat_ushiftRight]
theorem sw_xor (x y : BitVec 16) : x.setWidth 32 ^^^ y.setWidth 32 = (x ^^^ y).setWidth 32 := by
  apply BitVec.eq_of_toNat_eq
  rw [BitVec.toNat_xor, sw_nat, sw_nat, sw_nat, BitVec.toNat_xor]

theorem refSum_ok (w : World) {A : Option Addr} {n c : Nat} {l : List UInt8} (hs : Sl w 1 A n (l.map vb)) (hn : n ≤ 1000000) :
    VC Tryd.prog 41 [.slice A n c, .int .u32 65535, .int .u32 33800] w (fun v w' => v = vw ((csum l).setWidth 32) ∧ w = w') := by
  have hl : l.length = n := by simpa using hs.len
  refine VC.of tt_ok Tryd.func41 rfl (by decide +kernel) (Nat.le_of_ble_eq_true rfl) ?_; (conv => whnf)
  refine VLoop.by_ tt_ok (S := Nat) (fun k => [(0, .slice A n c), (1, .int .u32 65535), (2, .int .u32 33800), (8, .int .i64 k), (7, vw ((creg (l.take k)).setWidth 32))]) (fun k w' => k ≤ n ∧ w = w') (fun k => n - k) 0
    ⟨rfl, rfl, rfl, rfl, rfl, trivial⟩ ⟨by omega, rfl⟩ ?_
  rintro k w' ⟨hk, rfl⟩
  (conv => whnf)
  refine VCmp.mk (fun h => ?_) (fun h => ?_) <;> (conv => whnf)
  · obtain ⟨x, hx⟩ : ∃ x, l[k]? = some x := ⟨_, List.getElem?_eq_getElem (by omega)⟩
    have hxd : l.getD k 0 = x := by rw [List.getD_eq_getElem?_getD, hx]; rfl
    refine VIdx.sl (hs) (k) (by first | rfl | omega) (by omega) (fun b_ o_ hA_ hc_ => ?_); (conv => whnf); refine VLoad.by_ hc_ ?_; (conv => whnf)
    rw [hxd]
    have hx8 := x.toNat_lt
    refine VRes.u32 (by omega) ?_
    (conv => whnf)
    refine VRes.xor32 (y := (c16 x).setWidth 32) rfl (by rw [sw_nat, c16_nat]) ?_
    rw [sw_xor]
    (conv => whnf)
    refine VLoop.by_ tt_ok (S := Nat) (fun j => [(0, .slice A n c), (1, .int .u32 65535), (2, .int .u32 33800), (8, .int .i64 k), (9, .int .i64 j), (7, vw ((csteps j (creg (l.take k) ^^^ c16 x)).setWidth 32))]) (fun j w' => j ≤ 8 ∧ w = w') (fun j => 8 - j) 0
      ⟨rfl, rfl, rfl, rfl, rfl, rfl, trivial⟩ ⟨by omega, rfl⟩ ?_
    rintro j w' ⟨hj, rfl⟩
    (conv => whnf)
    refine VCmp.mk (fun h8 => ?_) (fun h8 => ?_) <;> (conv => whnf)
    · refine VRes.and32 (y := 1#32) rfl ?_
      rw [sw_and1]
      (conv => whnf)
      refine VCmp.mk (fun h1 => ?_) (fun h1 => ?_) <;> (conv => whnf)
      · refine VReq.mk (by omega) ?_
        refine VRes.shr32 (k := 1) rfl ?_
        rw [sw_shr]
        (conv => whnf)
        refine VRes.xor32 (y := (0x8408#16).setWidth 32) rfl rfl ?_
        rw [sw_xor]
        (conv => whnf)
        refine VRes.i64 (by omega) ?_; (conv => whnf)
        have e : csteps (j + 1) (creg (l.take k) ^^^ c16 x) = (csteps j (creg (l.take k) ^^^ c16 x) >>> 1) ^^^ 0x8408#16 := by
          show cstep _ = _
          unfold cstep
          rw [if_pos ((and1_iff _).2 h1)]
        exact ⟨j + 1, ⟨rfl, rfl, rfl, rfl, rfl, by rw [e]; rfl, trivial⟩, ⟨by omega, rfl⟩, by omega⟩
      · refine VReq.mk (by omega) ?_
        refine VRes.shr32 (k := 1) rfl ?_
        rw [sw_shr]
        (conv => whnf)
        refine VRes.i64 (by omega) ?_; (conv => whnf)
        have e : csteps (j + 1) (creg (l.take k) ^^^ c16 x) = csteps j (creg (l.take k) ^^^ c16 x) >>> 1 := by
          show cstep _ = _
          unfold cstep
          rw [if_neg (fun h => h1 ((and1_iff _).1 h))]
        exact ⟨j + 1, ⟨rfl, rfl, rfl, rfl, rfl, by rw [e]; rfl, trivial⟩, ⟨by omega, rfl⟩, by omega⟩
    · obtain rfl : j = 8 := by omega
      refine VRes.i64 (by omega) ?_; (conv => whnf)
      exact ⟨k + 1, ⟨rfl, rfl, rfl, rfl, by rw [creg_snoc l k x hx]; rfl, trivial⟩, ⟨by omega, rfl⟩, by omega⟩
  · rw [List.take_of_length_le (by omega)]
    refine VRes.xor32 (y := (BitVec.allOnes 16).setWidth 32) rfl (by decide) ?_
    rw [sw_xor]
    (conv => whnf)
    refine ⟨?_, rfl⟩
    show vw _ = vw _
    unfold csum
    rw [BitVec.xor_allOnes]

theorem refSum16_ok (w : World) {A : Option Addr} {n c : Nat} {l : List UInt8} (hs : Sl w 1 A n (l.map vb)) (hn : n ≤ 1000000) :
    VC Tryd.prog 28 [.slice A n c] w (fun v w' => v = vh (csum l) ∧ w = w') := by
  refine VC.of tt_ok Tryd.func28 rfl (by decide +kernel) (Nat.le_of_ble_eq_true rfl) ?_; (conv => whnf)
  refine (refSum_ok w hs hn).mono ?_
  rintro v w' ⟨rfl, rfl⟩
  (conv => whnf)
  have := (csum l).isLt
  refine VRes.u16 (by rw [sw_nat]; omega) ?_
  rw [sw_nat]
  (conv => whnf)
  exact ⟨rfl, rfl⟩
end Go.Proofs.YtpofkhjkdkkajaaDoor
