/-
  Chapter 11's examples. A closed statement.
-/
import Derived.Test.YtififgodhnelgaaP12
namespace Go.Proofs.Ytififgodhnelgaa
open Go V Go.ChangeShapes Go.WideShapes Go.ChangeAt Go.RowKit

theorem packetKnown_ok (W : World) : VC Try.prog 4 [] W (fun v w' => v = .bool true ∧ Keep No W w') := by
  refine VC.of tt_ok Try.func4 rfl (by decide +kernel) (Nat.le_of_ble_eq_true rfl) ?_; (conv => whnf)
  refine (awake_ok W).mono ?_
  rintro v w1 ⟨rfl, kp⟩
  (conv => whnf)
  refine VFill.by_ rfl ?_; (conv => whnf)
  refine ⟨fun w2 hb2 hk2 => ?_⟩; have hb2_lt := Blk.lt hb2; have hk2_sz := hk2.size; (conv => whnf)
  have kp := kp.keepNo hk2
  refine VFill.by_ rfl ?_; (conv => whnf)
  refine (encode_ok (p := ⟨1, 7, [1, 4, 5, 0xdc]⟩) w2 (Sl.ofBlk (n := 4) (size := 1) hb2 rfl) (by omega)).mono ?_
  rintro v w3 ⟨⟨A3, c3, rfl, ho3⟩, hk3⟩
  rw [show encodeP ⟨1, 7, [1, 4, 5, 0xdc]⟩ = ([1, 7, 0, 8, 1, 4, 5, 0xdc], 0) from by decide] at *
  have kp := kp.keepNo hk3
  (conv => whnf)
  refine VFill.by_ rfl ?_; (conv => whnf)
  refine ⟨fun w4 hb4 hk4 => ?_⟩; have hb4_lt := Blk.lt hb4; have hk4_sz := hk4.size; (conv => whnf)
  have kp := kp.keepNo hk4; have ho3 := ho3.keepNo hk4
  refine (Split_ok w4 (l := [1, 4, 5, 0xdc]) (Sl.ofBlk (n := 4) (size := 1) hb4 rfl) (by omega) (by omega)).mono ?_
  rintro v w5 ⟨⟨A5, n5, c5, ce5, rfl, hs5, hp5, _⟩, hk5⟩
  rw [show splitP [1, 4, 5, 0xdc] = ([⟨1, [5, 0xdc]⟩], 0) from by decide] at *
  obtain rfl : 1 = n5 := hp5.len hs5
  have kp := kp.keepNo hk5; have ho3 := ho3.keepNo hk5
  (conv => whnf)
  refine VFill.by_ rfl ?_; (conv => whnf)
  refine ⟨fun w6 hb6 hk6 => ?_⟩; have hb6_lt := Blk.lt hb6; have hk6_sz := hk6.size; (conv => whnf)
  have kp := kp.keepNo hk6; have ho3 := ho3.keepNo hk6; have hs5 := hs5.keepNo hk6; have hp5 := hp5.keepNo hk6
  refine (decode_ok w6 (l := [1, 7, 0]) (Sl.ofBlk (n := 3) (size := 1) hb6 rfl) (by omega) (by omega)).mono ?_
  rintro v w7 ⟨x, rfl, ⟨A7, n7, c7, rfl, _⟩, hk7⟩
  rw [show decodeP [1, 7, 0] = (Pk.zero, 2) from by decide] at *
  have kp := kp.keepNo hk7; have ho3 := ho3.keepNo hk7; have hs5 := hs5.keepNo hk7; have hp5 := hp5.keepNo hk7
  (conv => whnf)
  refine ⟨fun w8 hb8 hk8 => ?_⟩; have hb8_lt := Blk.lt hb8; have hk8_sz := hk8.size; (conv => whnf); (refine VReq.mk ⟨rfl, (fun u hu => List.all_eq_true.mp (show List.all _ (fun u => u.oneCell') = true by rfl) u hu)⟩ ?_; (conv => whnf)); refine VStore.all hb8 rfl ?_; intro w9 hb9 hk9 hk9_sz; have hk9 := Keep.fresh_ hk8 hk9 (Nat.le_refl _); (conv => whnf)
  have kp := kp.keepNo hk9; have ho3 := ho3.keepNo hk9; have hs5 := hs5.keepNo hk9; have hp5 := hp5.keepNo hk9
  refine VFill.by_ rfl ?_; (conv => whnf)
  refine ⟨fun w10 hb10 hk10 => ?_⟩; have hb10_lt := Blk.lt hb10; have hk10_sz := hk10.size; (conv => whnf)
  have kp := kp.keepNo hk10; have ho3 := ho3.keepNo hk10; have hs5 := hs5.keepNo hk10; have hp5 := hp5.keepNo hk10
  refine (decode_ok w10 (l := [1, 7, 0, 3]) (Sl.ofBlk (n := 4) (size := 1) hb10 rfl) (by omega) (by omega)).mono ?_
  rintro v w11 ⟨x, rfl, ⟨A11, n11, c11, rfl, _⟩, hk11⟩
  rw [show decodeP [1, 7, 0, 3] = (Pk.zero, 4) from by decide] at *
  have kp := kp.keepNo hk11; have ho3 := ho3.keepNo hk11; have hs5 := hs5.keepNo hk11; have hp5 := hp5.keepNo hk11
  (conv => whnf)
  refine ⟨fun w12 hb12 hk12 => ?_⟩; have hb12_lt := Blk.lt hb12; have hk12_sz := hk12.size; (conv => whnf); (refine VReq.mk ⟨rfl, (fun u hu => List.all_eq_true.mp (show List.all _ (fun u => u.oneCell') = true by rfl) u hu)⟩ ?_; (conv => whnf)); refine VStore.all hb12 rfl ?_; intro w13 hb13 hk13 hk13_sz; have hk13 := Keep.fresh_ hk12 hk13 (Nat.le_refl _); (conv => whnf)
  have kp := kp.keepNo hk13; have ho3 := ho3.keepNo hk13; have hs5 := hs5.keepNo hk13; have hp5 := hp5.keepNo hk13
  refine VFill.by_ rfl ?_; (conv => whnf)
  refine ⟨fun w14 hb14 hk14 => ?_⟩; have hb14_lt := Blk.lt hb14; have hk14_sz := hk14.size; (conv => whnf)
  have kp := kp.keepNo hk14; have ho3 := ho3.keepNo hk14; have hs5 := hs5.keepNo hk14; have hp5 := hp5.keepNo hk14
  refine (decode_ok w14 (l := [1, 7, 0, 5]) (Sl.ofBlk (n := 4) (size := 1) hb14 rfl) (by omega) (by omega)).mono ?_
  rintro v w15 ⟨x, rfl, ⟨A15, n15, c15, rfl, _⟩, hk15⟩
  rw [show decodeP [1, 7, 0, 5] = (Pk.zero, 2) from by decide] at *
  have kp := kp.keepNo hk15; have ho3 := ho3.keepNo hk15; have hs5 := hs5.keepNo hk15; have hp5 := hp5.keepNo hk15
  (conv => whnf)
  refine ⟨fun w16 hb16 hk16 => ?_⟩; have hb16_lt := Blk.lt hb16; have hk16_sz := hk16.size; (conv => whnf); (refine VReq.mk ⟨rfl, (fun u hu => List.all_eq_true.mp (show List.all _ (fun u => u.oneCell') = true by rfl) u hu)⟩ ?_; (conv => whnf)); refine VStore.all hb16 rfl ?_; intro w17 hb17 hk17 hk17_sz; have hk17 := Keep.fresh_ hk16 hk17 (Nat.le_refl _); (conv => whnf)
  have kp := kp.keepNo hk17; have ho3 := ho3.keepNo hk17; have hs5 := hs5.keepNo hk17; have hp5 := hp5.keepNo hk17
  refine VFill.by_ rfl ?_; (conv => whnf)
  refine ⟨fun w18 hb18 hk18 => ?_⟩; have hb18_lt := Blk.lt hb18; have hk18_sz := hk18.size; (conv => whnf)
  have kp := kp.keepNo hk18; have ho3 := ho3.keepNo hk18; have hs5 := hs5.keepNo hk18; have hp5 := hp5.keepNo hk18
  refine (Split_ok w18 (l := [1, 1]) (Sl.ofBlk (n := 2) (size := 1) hb18 rfl) (by omega) (by omega)).mono ?_
  rintro v w19 ⟨⟨A19, n19, c19, ce19, rfl, _⟩, hk19⟩
  rw [show splitP [1, 1] = ([], 4) from by decide] at *
  have kp := kp.keepNo hk19; have ho3 := ho3.keepNo hk19; have hs5 := hs5.keepNo hk19; have hp5 := hp5.keepNo hk19
  (conv => whnf)
  refine VFill.by_ rfl ?_; (conv => whnf)
  refine ⟨fun w20 hb20 hk20 => ?_⟩; have hb20_lt := Blk.lt hb20; have hk20_sz := hk20.size; (conv => whnf)
  have kp := kp.keepNo hk20; have ho3 := ho3.keepNo hk20; have hs5 := hs5.keepNo hk20; have hp5 := hp5.keepNo hk20
  refine (Split_ok w20 (l := [1]) (Sl.ofBlk (n := 1) (size := 1) hb20 rfl) (by omega) (by omega)).mono ?_
  rintro v w21 ⟨⟨A21, n21, c21, ce21, rfl, _⟩, hk21⟩
  rw [show splitP [1] = ([], 4) from by decide] at *
  have kp := kp.keepNo hk21; have ho3 := ho3.keepNo hk21; have hs5 := hs5.keepNo hk21; have hp5 := hp5.keepNo hk21
  (conv => whnf)
  refine VFill.by_ rfl ?_; (conv => whnf)
  refine ⟨fun w22 hb22 hk22 => ?_⟩; have hb22_lt := Blk.lt hb22; have hk22_sz := hk22.size; (conv => whnf)
  have kp := kp.keepNo hk22; have ho3 := ho3.keepNo hk22; have hs5 := hs5.keepNo hk22; have hp5 := hp5.keepNo hk22
  refine (same_ok w22 (r := [1, 7, 0, 8, 1, 4, 5, 0xdc]) (Sl.ofOwn ho3) (Sl.ofBlk (n := 8) (size := 1) hb22 rfl) (by decide)).mono ?_
  rintro v w23 ⟨rfl, hk23⟩
  rw [decide_eq_true rfl]
  have kp := kp.keepNo hk23; have hs5 := hs5.keepNo hk23; have hp5 := hp5.keepNo hk23
  (conv => whnf)
  obtain ⟨b, o, A1, c1, hA, _, e0, e1, _, _⟩ := hp5.at_ hs5 (k := 0) (x := ⟨1, [5, 0xdc]⟩) rfl
  refine VCmp.mk (fun _ => ?_) (fun h => absurd rfl h); (conv => whnf)
  refine VCmp.mk (fun _ => ?_) (fun h => absurd rfl h); (conv => whnf)
  refine VIdx.mul 0 rfl (by omega) hA ?_
  (conv => whnf)
  refine VLoad.by_ e0 ?_
  (conv => whnf)
  refine VCmp.mk (fun _ => ?_) (fun h => absurd rfl h); (conv => whnf)
  refine VIdx.mul 0 rfl (by omega) hA ?_
  (conv => whnf)
  refine VLoad.by_ e1 ?_
  (conv => whnf)
  refine VCmp.mk (fun _ => ?_) (fun h => absurd rfl h); (conv => whnf)
  refine VCmp.mk (fun _ => ?_) (fun h => absurd rfl h); (conv => whnf)
  refine VCmp.mk (fun _ => ?_) (fun h => absurd rfl h); (conv => whnf)
  refine VCmp.mk (fun _ => ?_) (fun h => absurd rfl h); (conv => whnf)
  refine VCmp.mk (fun _ => ?_) (fun h => absurd rfl h); (conv => whnf)
  refine VCmp.mk (fun _ => ?_) (fun h => absurd rfl h); (conv => whnf)
  exact ⟨rfl, kp⟩
/-! ### The statement -/
theorem packetKnown_own : ownKnob Try.prog.godebug = none := by kernel_rfl
theorem packetKnown_laid : laidOutB Try.prog = true := by kernel_rfl
set_option maxRecDepth 100000 in
theorem packetKnown_lifted (os : Os) (started : os.Started) (H : Type) (enc : TypeId × Value → H) :
    ReturnsInHanded {} Try.checked os 4 .any (Rows.packetKnownSpec.pre6 enc Try.prog Try.f4 Rows.packetKnownRow.domain false) (Rows.packetKnownSpec.post enc Try.prog Try.f4 false true false false) := by
  refine returnsInHanded_of_change (C := Try.checked) packetKnown_own started (by kernel_rfl) Try.func4
    (ChangeSpec.witness6 (enc := enc) (C := Try.checked) false ⟨#[], #[], []⟩ 8 (by kernel_rfl) (by kernel_rfl) (by kernel_rfl) (by kernel_rfl)) ?_
  intro W base args ds gs before hval0 hW hcnd _
  have hval : ∀ (j : Nat) t v, Try.f4.params[j]? = some t → args[j]? = some v → Value.okWide Try.prog W .any base t v := hval0
  have hW' := hW
  obtain ⟨p, q, hA0, hV, rfl, hfz, hnd⟩ := hW
  have hA : DataW.TrodAll enc Try.prog W 0 (fun _ => true) true Try.f4.params.toList args.toList ds p := hA0
  rw [Try.params4] at hA hval
  obtain ⟨rfl, rfl, rfl⟩ := trodAll_none hA
  obtain ⟨rfl, rfl⟩ := trodVars_none hV
  clear hA0 hval0
  refine (VC.law (packetKnown_ok W )).mono fun e W' ⟨he, bel⟩ => ?_
  subst he
  exact ⟨_, rfl, _, _, _, [], [], [], hW', trodAll_mk1 (shut_bool Try.underlying4 _), trodAll_mk0, rfl, bel.frame _, fun h => by cases h⟩

theorem packetKnown_over : Rows.packetKnownRow.holds Try.pinned (OpenSpec.ofChange Rows.packetKnownSpec) :=
  OpenClaim.holds_of_wide 4 Try.f4 rfl rfl rfl rfl rfl rfl rfl ⟨rfl, rfl, rfl, rfl, rfl⟩ rfl rfl rfl rfl rfl (by kernel_rfl) Try.func4 (by kernel_rfl)
    (of_decide_eq_true (by kernel_rfl)) (by unfold Func.isWrapper; first | (rw [if_pos (by decide +kernel)]; kernel_rfl) | (rw [if_neg (by decide +kernel)]; exact ⟨rfl, rfl⟩))
    (fun os started H enc _ => packetKnown_lifted os started H enc)

theorem packetKnown_proved : Rows.PacketKnownSaid := packetKnown_over
#print axioms packetKnown_proved
end Go.Proofs.Ytififgodhnelgaa
