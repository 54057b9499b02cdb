/-
  MD4 as a plain function on lists: padding, words, steps, blocks, the digest.
-/
import Derived.Test.YtoeijgbjgbgelaaDoorVb
namespace Go.Proofs.YtoeijgbjgbgelaaDoor.Md
open Go V

def rotl (x : BitVec 32) (k : Nat) : BitVec 32 := (x <<< k) ||| (x >>> (32 - k))
def mdF (n : Nat) (x y z : BitVec 32) : BitVec 32 :=
  match n with
  | 0 => (x &&& y) ||| (~~~x &&& z)
  | 1 => ((x &&& y) ||| (x &&& z)) ||| (y &&& z)
  | _ => (x ^^^ y) ^^^ z
def mdT (n : Nat) : BitVec 32 :=
  match n with
  | 0 => 0#32
  | 1 => 0x5a827999#32
  | _ => 0x6ed9eba1#32
def mdOrd : List Nat := [0, 1, 2, 3, 4, 5, 6, 7, 8, 9, 10, 11, 12, 13, 14, 15, 0, 4, 8, 12, 1, 5, 9, 13, 2, 6, 10, 14, 3, 7, 11, 15, 0, 8, 4, 12, 2, 10, 6, 14, 1, 9, 5, 13, 3, 11, 7, 15]
def mdTurn : List Nat := [3, 7, 11, 19, 3, 5, 9, 13, 3, 9, 11, 15]
structure M4 where
  a : BitVec 32
  b : BitVec 32
  c : BitVec 32
  d : BitVec 32
def mdStep1 (s : M4) (n : Nat) (x : BitVec 32) (turn : Nat) : M4 := ⟨s.d, rotl (((s.a + mdF n s.b s.c s.d) + x) + mdT n) turn, s.b, s.c⟩
def mdStep (x : List (BitVec 32)) (s : M4) (i : Nat) : M4 := mdStep1 s (i / 16) (x.getD (mdOrd.getD i 0) 0) (mdTurn.getD (i / 16 * 4 + i % 4) 0)
def mdRounds (x : List (BitVec 32)) (s : M4) (k : Nat) : M4 := (List.range k).foldl (mdStep x) s
def mdWord1 (blk : List UInt8) (x : List (BitVec 32)) (i : Nat) : List (BitVec 32) := x.set (i / 4) (x.getD (i / 4) 0 ||| (BitVec.ofNat 32 (blk.getD i 0).toNat <<< (i % 4 * 8)))
def mdWords (blk : List UInt8) (k : Nat) : List (BitVec 32) := (List.range k).foldl (mdWord1 blk) (List.replicate 16 0#32)
def mdAdd (s v : M4) : M4 := ⟨v.a + s.a, v.b + s.b, v.c + s.c, v.d + s.d⟩
def mdMix (s : M4) (blk : List UInt8) : M4 := mdAdd s (mdRounds (mdWords blk 64) s 48)
def mdBlocks (p : List UInt8) (s : M4) (k : Nat) : M4 := (List.range k).foldl (fun s j => mdMix s ((p.drop (64 * j)).take 64)) s
def M4.get (s : M4) (i : Nat) : BitVec 32 :=
  match i with
  | 0 => s.a
  | 1 => s.b
  | 2 => s.c
  | _ => s.d
def M4.list (s : M4) : List (BitVec 32) := [s.a, s.b, s.c, s.d]
def mdByte (s : M4) (i : Nat) : UInt8 := UInt8.ofNat ((s.get (i / 4)).toNat / 2 ^ (i % 4 * 8))
def mdOut (s : M4) : List UInt8 := (List.range 16).map (mdByte s)
def mdInit : M4 := ⟨0x67452301#32, 0xefcdab89#32, 0x98badcfe#32, 0x10325476#32⟩

/-- How many noughts behind the first byte. -/
def padZ (n : Nat) : Nat := (119 - n % 64) % 64
def padByte (n i : Nat) : UInt8 := UInt8.ofNat (n * 8 / 2 ^ (8 * i))
def mdPad (l : List UInt8) : List UInt8 := l ++ [0x80] ++ List.replicate (padZ l.length) 0 ++ (List.range 8).map (padByte l.length)
def md4 (l : List UInt8) : List UInt8 := mdOut (mdBlocks (mdPad l) mdInit ((mdPad l).length / 64))

theorem padZ_lt (n : Nat) : padZ n < 64 := Nat.mod_lt _ (by omega)
theorem padZ_spec (n : Nat) : (n + 1 + padZ n) % 64 = 56 := by unfold padZ; omega
theorem padZ_least (n k : Nat) (h : k < padZ n) : (n + 1 + k) % 64 ≠ 56 := by unfold padZ at h; omega
theorem mdPad_length (l : List UInt8) : (mdPad l).length = l.length + 9 + padZ l.length := by
  unfold mdPad
  simp only [List.length_append, List.length_cons, List.length_nil, List.length_replicate, List.length_map, List.length_range]
  omega
theorem mdPad_mod (l : List UInt8) : (mdPad l).length % 64 = 0 := by
  rw [mdPad_length]; have := padZ_spec l.length; omega
theorem range_succ_foldl {α : Type} (f : α → Nat → α) (s : α) (k : Nat) : (List.range (k + 1)).foldl f s = f ((List.range k).foldl f s) k := by
  rw [List.range_succ, List.foldl_append]; rfl

theorem rotl_ok (w : World) (x : BitVec 32) (k : Nat) (h0 : 0 < k) (hk : k < 32) :
    VC Tryd.prog 60 [vw x, .int .i64 k] w (fun v w' => v = vw (rotl x k) ∧ w = w') := by
  refine VC.of tt_ok Tryd.func60 rfl (by decide +kernel) (Nat.le_of_ble_eq_true rfl) ?_; (conv => whnf)
  refine VRes.u64 (by omega) ?_
  (conv => whnf)
  refine VRes.to (v' := .int .u64 k) ?_ ?_
  · congr 1
    show IntKind.wrap .u64 ((BitVec.ofInt 64 (k : Int) &&& BitVec.ofInt 64 31).toNat : Int) = k
    rw [wrap_nat64, BitVec.toNat_and, BitVec.ofInt_natCast]
    have h31 : (BitVec.ofInt 64 31).toNat = 2 ^ 5 - 1 := by decide
    rw [h31, Nat.and_two_pow_sub_one_eq_mod, BitVec.toNat_ofNat]
    omega
  (conv => whnf)
  refine VReq.mk (by omega) ?_
  (conv => whnf)
  refine VRes.shl32 rfl rfl ?_
  (conv => whnf)
  refine VRes.u64 (by omega) ?_
  (conv => whnf)
  refine VReq.mk (by omega) ?_
  (conv => whnf)
  refine VRes.shr32 (k := 32 - k) (by omega) ?_
  (conv => whnf)
  refine VRes.or32 rfl rfl ?_
  (conv => whnf)
  exact ⟨rfl, rfl⟩
end Go.Proofs.YtoeijgbjgbgelaaDoor.Md
