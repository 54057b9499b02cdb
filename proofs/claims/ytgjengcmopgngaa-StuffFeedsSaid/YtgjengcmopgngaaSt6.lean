/-
  The statements' own helper for package stuff: Small.
-/
import Derived.Test.YtgjengcmopgngaaSt5
namespace Go.Proofs.Ytgjengcmopgngaa
open Go V

def smallB (fs : List (List UInt8)) (most : Nat) : Bool := decide (fs.length ≤ 40) && fs.all fun f => decide (f.length ≤ most)

theorem small_ok (w : World) {A : Option Addr} {n c : Nat} {va : List Value} {fs : List (List UInt8)} {X : Nat → Prop} (most : Nat) (ha : Sl w 1 A n va) (hea : Els w X va fs) :
    VC Try.prog 17 [.slice A n c, .int .i64 most] w (fun v w' => v = .bool (smallB fs most) ∧ w = w') := by
  have hl : fs.length = n := by rw [← hea.1]; exact ha.len
  refine VC.of tt_ok Try.func17 rfl (by decide +kernel) (Nat.le_of_ble_eq_true rfl) ?_; (conv => whnf)
  refine VCmp.mk (fun h => ?_) (fun h => ?_) <;> (conv => whnf)
  · refine ⟨congrArg Value.bool ?_, rfl⟩
    unfold smallB
    rw [decide_eq_false (by omega)]
    rfl
  · refine VLoop.by_ tt_ok (S := Nat) (fun k => [(0, .slice A n c), (1, .int .i64 most), (5, .int .i64 k)]) (fun k w' => k ≤ n ∧ (∀ f ∈ fs.take k, f.length ≤ most) ∧ w' = w) (fun k => n - k) 0
      ⟨rfl, rfl, rfl, trivial⟩ ⟨by omega, by simp, rfl⟩ ?_
    rintro k w' ⟨hk, ht, rfl⟩
    (conv => whnf)
    refine VCmp.mk (fun h => ?_) (fun h => ?_) <;> (conv => whnf)
    · obtain ⟨x, hx⟩ : ∃ x, fs[k]? = some x := ⟨_, List.getElem?_eq_getElem (by omega)⟩
      obtain ⟨b1, o1, hA, hc1⟩ := ha.at_ (by omega)
      obtain ⟨vx, hvx, A1, c1, rfl, _, hs1, _⟩ := hea.2 k x hx
      refine VIdx.one k rfl (by omega) hA ?_
      (conv => whnf)
      refine VLoad.by_ (hc1 k _ hvx) ?_
      (conv => whnf)
      refine VCmp.mk (fun h2 => ?_) (fun h2 => ?_) <;> (conv => whnf)
      · refine ⟨congrArg Value.bool ?_, rfl⟩
        unfold smallB
        rw [Bool.and_eq_false_iff.2 (.inr ?_)]
        rw [List.all_eq_false]
        exact ⟨x, List.mem_of_getElem? hx, by simp; omega⟩
      · refine VRes.i64 (by omega) ?_
        (conv => whnf)
        refine ⟨k + 1, ⟨rfl, rfl, rfl, trivial⟩, ⟨by omega, ?_, rfl⟩, by omega⟩
        intro f hf
        rw [List.take_add_one, hx] at hf
        rcases List.mem_append.1 hf with h | h
        · exact ht f h
        · obtain rfl : f = x := by simpa using h
          omega
    · refine ⟨congrArg Value.bool ?_, rfl⟩
      rw [List.take_of_length_le (by omega)] at ht
      unfold smallB
      symm
      rw [Bool.and_eq_true]
      exact ⟨decide_eq_true (by omega), List.all_eq_true.2 (fun f hf => decide_eq_true (ht f hf))⟩

end Go.Proofs.Ytgjengcmopgngaa
