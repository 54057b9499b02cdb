/-
  Law 18: awake.
-/
import Derived.Test.YtgmopcbfgcagaaaDoorJ8
import Derived.Test.YtgmopcbfgcagaaaDoorSt0
namespace Go.Proofs.YtgmopcbfgcagaaaDoor
open Go V

/-- What blocks make, as a closed fact. -/
def outB (r : Except Nat IS) (out : List UInt8) (n : Nat) : Bool := match r with | .ok s' => (s'.all.drop s'.from_ == out) && ((s'.at_ + 7) / 8 == n) | .error _ => false
theorem blocks_is {r : Except Nat IS} {out : List UInt8} {n : Nat} (h : outB r out n = true) : ∃ s', r = .ok s' ∧ s'.all.drop s'.from_ = out ∧ (s'.at_ + 7) / 8 = n := by
  cases r with
  | error e => cases h
  | ok s' =>
    unfold outB at h
    rw [Bool.and_eq_true] at h
    exact ⟨s', rfl, by simpa using h.1, by simpa using h.2⟩
def errB (r : Except Nat IS) (e : Nat) : Bool := match r with | .ok _ => false | .error x => x == e
theorem error_is {r : Except Nat IS} {e : Nat} (h : errB r e = true) : r = .error e := by
  cases r with
  | error x => unfold errB at h; rw [show x = e by simpa using h]
  | ok s' => cases h
theorem aw_known : outB (blocksF (8 * ([75, 76, 74, 6, 0] : List UInt8).length + 1) (startS [75, 76, 74, 6, 0] [] 9)) [97, 98, 99] 5 = true := by decide +kernel

set_option maxRecDepth 100000 in
theorem awake18_ok (w : World) (hg : EtOk w) : VC Tryd.prog 8 [] w (fun v w' => v = .bool true ∧ Keep No w w') := by
  refine VC.of tt_ok Tryd.func8 rfl (by decide +kernel) (Nat.le_of_ble_eq_true rfl) ?_; (conv => whnf)
  refine VFill.by_ rfl ?_; (conv => whnf)
  refine ⟨fun w1 hb1 kp => ?_⟩; have hb1_lt := Blk.lt hb1; have kp_sz := kp.size; (conv => whnf)
  refine (Blocks_ok w1 (hg.keepNo kp) (b := [75, 76, 74, 6, 0]) (hist := []) (most := 9) (Sl.ofBlk (n := 5) (size := 1) hb1 rfl) Sl.nil (by omega) (by omega) (by omega) (by omega)).mono ?_
  rintro v w2 ⟨hv, k2⟩
  obtain ⟨s', e1, e2, e3⟩ := blocks_is aw_known
  rw [e1] at hv
  dsimp only at hv
  rw [e2, e3] at hv
  obtain ⟨A2, c2, rfl, ho2⟩ := hv
  (conv => whnf)
  refine VCmp.mk (fun _ => ?_) (fun h => absurd rfl h); (conv => whnf)
  refine VCmp.mk (fun _ => ?_) (fun h => absurd rfl h); (conv => whnf)
  refine VConv.toStr (l := [97, 98, 99]) (Sl.ofOwn ho2) ?_
  (conv => whnf)
  refine VCmp.mk (fun _ => ?_) (fun h => absurd rfl h); (conv => whnf)
  exact ⟨rfl, kp.trans k2⟩
end Go.Proofs.YtgmopcbfgcagaaaDoor
