/-
  Package stuff: a byte's bit in a map; what is stuffed.
-/
import Derived.Test.YtpofkhjkdkkajaaDoorSt0
namespace Go.Proofs.YtpofkhjkdkkajaaDoor
open Go V

def mapB (c : UInt8) (m : BitVec 32) : Bool := decide (c.toNat < 32) && ((m >>> c.toNat) &&& 1#32 == 1#32)

theorem mapped_ok (w : World) (c : UInt8) (m : BitVec 32) : VC Tryd.prog 43 [vb c, vw m] w (fun v w' => v = .bool (mapB c m) ∧ w' = w) := by
  have hc := c.toNat_lt
  refine VC.of tt_ok Tryd.func43 rfl (by decide +kernel) (Nat.le_of_ble_eq_true rfl) ?_; (conv => whnf)
  (repeat' (first  | (refine VCmp.mk (fun h => ?_) (fun h => ?_) <;> first | (exfalso; omega) | (conv => whnf))  | (refine VRes.i64 (by omega) ?_; conv => whnf)  | (refine VReq.mk (by omega) ?_; conv => whnf)))
  · refine VRes.shr32 rfl ?_
    (conv => whnf)
    refine VRes.and32 (y := 1#32) rfl ?_
    (conv => whnf)
    refine VCmp.mk (fun h2 => ?_) (fun h2 => ?_) <;> (conv => whnf) <;> refine ⟨?_, rfl⟩
    · have e : (m >>> c.toNat) &&& 1#32 = 1#32 := BitVec.eq_of_toNat_eq (by have : (1#32).toNat = 1 := rfl; omega)
      have h' : c.toNat < 32 := by omega
      simp [vtup, mapB, e, h']
    · have e : ¬ ((m >>> c.toNat) &&& 1#32 = 1#32) := fun e => by rw [e] at h2; exact h2 rfl
      simp [vtup, mapB, e]
  · refine ⟨?_, rfl⟩
    have h' : ¬ c.toNat < 32 := by omega
    simp [vtup, mapB, h']

def escB (m : BitVec 32) (c : UInt8) : Bool := c == 0x7e || (c == 0x7d || mapB c m)
def stuffL (m : BitVec 32) (l : List UInt8) : List UInt8 := l.flatMap fun c => if escB m c then [0x7d, c ^^^ 0x20] else [c]
def stuffed (m : BitVec 32) (l : List UInt8) : List UInt8 := 0x7e :: stuffL m l ++ [0x7e]

theorem stuffL_snoc (m : BitVec 32) (l : List UInt8) (k : Nat) (x : UInt8) (h : l[k]? = some x) : stuffL m (l.take (k + 1)) = stuffL m (l.take k) ++ if escB m x then [0x7d, x ^^^ 0x20] else [x] := by
  rw [List.take_add_one, h]
  simp [stuffL]
theorem stuffL_len (m : BitVec 32) (l : List UInt8) : (stuffL m l).length ≤ 2 * l.length := by
  induction l with
  | nil => simp [stuffL]
  | cons x l ih =>
    have : stuffL m (x :: l) = (if escB m x then [0x7d, x ^^^ 0x20] else [x]) ++ stuffL m l := by simp [stuffL]
    rw [this]
    split <;> simp <;> omega


end Go.Proofs.YtpofkhjkdkkajaaDoor
