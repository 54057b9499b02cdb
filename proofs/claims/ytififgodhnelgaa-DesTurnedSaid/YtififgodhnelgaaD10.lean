/-
  DES, law 8: awake.
-/
import Derived.Test.YtififgodhnelgaaD9
import Derived.Test.YtififgodhnelgaaSt0
namespace Go.Proofs.Ytififgodhnelgaa
open Go V

theorem awake8_ok (w : World) : VC Try.prog 27 [] w (fun v w' => v = .bool true ∧ Keep No w w') := by
  refine VC.of tt_ok Try.func27 rfl (by decide +kernel) (Nat.le_of_ble_eq_true rfl) ?_; (conv => whnf)
  refine VFill.by_ rfl ?_; (conv => whnf)
  refine ⟨fun w1 hb1 kp => ?_⟩; have hb1_lt := Blk.lt hb1; have kp_sz := kp.size; (conv => whnf)
  refine VFill.by_ rfl ?_; (conv => whnf)
  refine ⟨fun w2 hb2 hk2 => ?_⟩; have hb2_lt := Blk.lt hb2; have hk2_sz := hk2.size; (conv => whnf)
  have kp := kp.keepNo hk2; have hb1 := hb1.keepNo hk2
  refine (encrypt_ok w2 (key := [0x12, 0x69, 0x5b, 0xc9, 0xb7, 0xb7, 0xf8]) (x := [0x01, 0x23, 0x45, 0x67, 0x89, 0xab, 0xcd, 0xef]) (Sl.ofBlk (n := 7) (size := 1) hb1 rfl) (Sl.ofBlk (n := 8) (size := 1) hb2 rfl) (by omega) (by omega)).mono ?_
  rintro v w3 ⟨hv, hk3⟩
  rw [if_pos ⟨rfl, rfl⟩, des_known] at hv
  obtain ⟨q, rfl, hq⟩ := hv
  have kp := kp.keepNo hk3
  (conv => whnf)
  refine VCmp.mk (fun _ => ?_) (fun h => absurd rfl h); (conv => whnf)
  refine VFill.by_ rfl ?_; (conv => whnf)
  refine ⟨fun w4 hb4 hk4 => ?_⟩; have hb4_lt := Blk.lt hb4; have hk4_sz := hk4.size; (conv => whnf)
  have kp := kp.keepNo hk4; have hq := hq.keepNo hk4
  refine (same_ok w4 (r := [0x85, 0xe8, 0x13, 0x54, 0x0f, 0x0a, 0xb4, 0x05]) (Sl.ofBlk (n := 8) (size := 1) hq rfl) (Sl.ofBlk (n := 8) (size := 1) hb4 rfl) (by decide)).mono ?_
  rintro v w5 ⟨rfl, hk5⟩
  rw [decide_eq_true rfl]
  (conv => whnf)
  exact ⟨rfl, kp.trans hk5⟩
end Go.Proofs.Ytififgodhnelgaa
