/-
  Gate: a request is seen.
-/
import Derived.Test.YtpofkhjkdkkajaaDoorG4
namespace Go.Proofs.YtpofkhjkdkkajaaDoor
open Go V
open Pk (decodeP splitP PkV OpsN Ops)

theorem awake26_ok (w : World) (hg : EtOk w) : VC Tryd.prog 7 [] w (fun v w' => v = .bool true ∧ Keep No w w') := by
  have hw2 : (wireP 49185 [1, 1, 0, 8, 1, 4, 5, 220] ⟨false, false⟩ 0xffffffff#32).2 = 0 := by decide +kernel
  have hlk : lookP (wireP 49185 [1, 1, 0, 8, 1, 4, 5, 220] ⟨false, false⟩ 0xffffffff#32).1 = ([⟨49185, 1, [1], 8, false⟩], 0) := by decide +kernel
  have hln := wireP_len 49185 [1, 1, 0, 8, 1, 4, 5, 220] ⟨false, false⟩ 0xffffffff#32
  refine VC.of tt_ok Tryd.func7 rfl (by decide +kernel) (Nat.le_of_ble_eq_true rfl) ?_; (conv => whnf)
  refine VFill.by_ rfl ?_; (conv => whnf)
  refine ⟨fun w1 hb1 kp => ?_⟩; have hb1_lt := Blk.lt hb1; have kp_sz := kp.size; (conv => whnf)
  refine VFill.by_ rfl ?_; (conv => whnf)
  refine (refWire_ok w1 49185 (l := [1, 1, 0, 8, 1, 4, 5, 220]) ⟨false, false⟩ 0xffffffff#32 (Sl.ofBlk (n := 8) (size := 1) hb1 rfl) (by omega)).mono ?_
  rintro v w2 ⟨⟨A2, c2, rfl, ho2⟩, hk2⟩
  generalize wireP 49185 [1, 1, 0, 8, 1, 4, 5, 220] ⟨false, false⟩ 0xffffffff#32 = wb at hw2 hlk hln ho2 ⊢
  have kp := kp.keepNo hk2
  (conv => whnf)
  refine (Look_ok w2 (hg.keepNo kp) (Sl.ofOwn ho2) (by omega)).mono ?_
  rintro v w3 ⟨⟨A3, n3, c3, cells, rfl, hs3, ho3, hc3⟩, hk3⟩
  rw [hlk] at ho3 ⊢
  obtain rfl : 1 = n3 := ho3.len hs3
  have kp := kp.keepNo hk3
  (conv => whnf)
  refine VCmp.mk (fun _ => ?_) (fun h => absurd rfl h); (conv => whnf)
  refine VCmp.mk (fun _ => ?_) (fun h => absurd rfl h); (conv => whnf)
  obtain ⟨b, o, A4, c4, hA, _, e0, e1, e2, e3, e4, s4⟩ := ho3.at_ hs3 (k := 0) (x := ⟨49185, 1, [1], 8, false⟩) rfl
  refine VIdx.mul 0 rfl (by omega) hA ?_
  (conv => whnf)
  refine VLoad.by_ e0 ?_
  (conv => whnf)
  refine VCmp.mk (fun _ => ?_) (fun h => absurd rfl h); (conv => whnf)
  refine VIdx.mul 0 rfl (by omega) hA ?_
  (conv => whnf)
  refine VLoad.by_ e1 ?_
  (conv => whnf)
  refine VCmp.mk (fun _ => ?_) (fun h => absurd rfl h); (conv => whnf)
  refine VIdx.mul 0 rfl (by omega) hA ?_
  (conv => whnf)
  refine VLoad.by_ e2 ?_
  (conv => whnf)
  refine VCmp.mk (fun _ => ?_) (fun h => absurd rfl h); (conv => whnf)
  refine VIdx.mul 0 rfl (by omega) hA ?_
  (conv => whnf)
  refine VLoad.by_ e2 ?_
  (conv => whnf)
  obtain ⟨b4, o4, hA4, hc4⟩ := s4.at_ (by decide)
  refine VIdx.one 0 rfl (by decide) hA4 ?_
  (conv => whnf)
  refine VLoad.by_ (hc4 0 _ rfl) ?_
  (conv => whnf)
  refine VCmp.mk (fun _ => ?_) (fun h => absurd rfl h); (conv => whnf)
  refine (Clean_ok w3 hs3 ho3 (by omega)).mono ?_
  rintro v w4 ⟨rfl, hk4⟩
  rw [show cleanB [⟨49185, 1, [1], 8, false⟩] = true from by decide]
  (conv => whnf)
  exact ⟨rfl, kp.trans hk4⟩
end Go.Proofs.YtpofkhjkdkkajaaDoor
