/-
  DES, the program's: one block encrypted.
-/
import Derived.Test.YtoeijgbjgbgelaaDoorD6
namespace Go.Proofs.YtoeijgbjgbgelaaDoor
open Go V

/-- One round on two halves. -/
def roundP (k : List UInt8) (p : List UInt8 × List UInt8) : List UInt8 × List UInt8 :=
  (p.2, xorP p.1 (putP (boxK (xorP (putP p.2 wideO 48) k 48) 8) (fun i => mixedL.getD i 0) 32) 32)
def roundsP (key x : List UInt8) : Nat → List UInt8 × List UInt8
  | 0 => ((putP (bitsP x) firstO 64).take 32, (putP (bitsP x) firstO 64).drop 32)
  | r + 1 => roundP (keyP key (r + 1)) (roundsP key x r)
/-- The last order turned back: bit i goes to place firstO i - 1. -/
def backK (l : List UInt8) : Nat → List UInt8
  | 0 => List.replicate 64 0
  | k + 1 => (backK l k).set (firstO k - 1) (l.getD k 0)
def desP (key x : List UInt8) : List UInt8 := bytesP (backK ((roundsP key x 16).2 ++ (roundsP key x 16).1) 64)
theorem mixed_range : ∀ i, i < 32 → 1 ≤ mixedL.getD i 0 ∧ mixedL.getD i 0 ≤ 32 := by
  have : ∀ i : Fin 32, 1 ≤ mixedL.getD i.val 0 ∧ mixedL.getD i.val 0 ≤ 32 := by decide +kernel
  exact fun i h => this ⟨i, h⟩
theorem wide_range : ∀ i, i < 48 → 1 ≤ wideO i ∧ wideO i ≤ 32 := by
  intro i h; unfold wideO; omega
theorem des_known : desP [0x12, 0x69, 0x5b, 0xc9, 0xb7, 0xb7, 0xf8] [0x01, 0x23, 0x45, 0x67, 0x89, 0xab, 0xcd, 0xef] = [0x85, 0xe8, 0x13, 0x54, 0x0f, 0x0a, 0xb4, 0x05] := by decide +kernel
end Go.Proofs.YtoeijgbjgbgelaaDoor
