/-
  Packet: awake, and any packet: its bytes, or that it may not be; any bytes: the packet, or what is wrong. For every input.
-/
import Derived.Test.YtififgodhnelgaaP7
import Derived.Test.YtififgodhnelgaaRows
namespace Go.Proofs.Ytififgodhnelgaa
open Go V Go.ChangeShapes Go.WideShapes Go.ChangeAt Go.RowKit

theorem awake_ok (w : World) : VC Try.prog 12 [] w (fun v w' => v = .bool true ∧ Keep No w w') := by
  refine VC.of tt_ok Try.func12 rfl (by decide +kernel) (Nat.le_of_ble_eq_true rfl) ?_; (conv => whnf)
  refine VFill.by_ rfl ?_; (conv => whnf)
  refine ⟨fun w1 hb1 hk1 => ?_⟩; have hb1_lt := Blk.lt hb1; have hk1_sz := hk1.size; (conv => whnf)
  refine VFill.by_ rfl ?_; (conv => whnf)
  refine (encode_ok (p := ⟨1, 7, [9]⟩) w1 (Sl.ofBlk (n := 1) (size := 1) hb1 rfl) (by omega)).mono ?_
  rintro v w2 ⟨⟨A2, c2, rfl, ho2⟩, hk2⟩
  rw [show encodeP ⟨1, 7, [9]⟩ = ([1, 7, 0, 5, 9], 0) from by decide] at *
  have kp := hk1.trans hk2
  (conv => whnf)
  refine (decode_ok (l := [1, 7, 0, 5, 9]) w2 (Sl.ofOwn ho2) (by decide) ho2.le).mono ?_
  rintro v w3 ⟨x, rfl, hx, hk3⟩
  rw [show decodeP [1, 7, 0, 5, 9] = (⟨1, 7, [9]⟩, 0) from by decide] at *
  obtain ⟨A3, n3, c3, rfl, hs3, _⟩ := hx
  have hn3 : n3 = 1 := by have := hs3.len; simpa using this.symm
  subst hn3
  (conv => whnf)
  refine ⟨fun w4 hb4 hk4 => ?_⟩; have hb4_lt := Blk.lt hb4; have hk4_sz := hk4.size; (conv => whnf); (refine VReq.mk ⟨rfl, (fun u hu => List.all_eq_true.mp (show List.all _ (fun u => u.oneCell') = true by rfl) u hu)⟩ ?_; (conv => whnf)); refine VStore.all hb4 rfl ?_; intro w5 hb5 hk5 hk5_sz; have hk5 := Keep.fresh_ hk4 hk5 (Nat.le_refl _); (conv => whnf)
  refine VCmp.mk (fun _ => ?_) (fun h => absurd rfl h); (conv => whnf)
  refine VCmp.mk (fun _ => ?_) (fun h => absurd rfl h); (conv => whnf)
  refine VCmp.mk (fun _ => ?_) (fun h => absurd rfl h); (conv => whnf)
  refine VLoad.by_ ((hb5).cell 0) ?_; (conv => whnf)
  refine VCmp.mk (fun _ => ?_) (fun h => absurd rfl h); (conv => whnf)
  refine VLoad.by_ ((hb5).cell 1) ?_; (conv => whnf)
  refine VCmp.mk (fun _ => ?_) (fun h => absurd rfl h); (conv => whnf)
  refine VLoad.by_ ((hb5).cell 2) ?_; (conv => whnf)
  refine VCmp.mk (fun _ => ?_) (fun h => absurd rfl h); (conv => whnf)
  exact ⟨rfl, (kp.trans hk3).trans hk5⟩

theorem packetCodes_ok (W : World) (p : Pk) (A : Option Addr) (n c : Nat) (hs : Sl W 1 A n (p.data.map vb)) (hl : p.data.length = n) (hnc : n ≤ c) (hc : c ≤ 9223372036854775807) (B : Option Addr) (m d : Nat) (l : List UInt8) (hr : Sl W 1 B m (l.map vb))
    (hmd : m ≤ d) (hd : d ≤ 9223372036854775807) (_ : ∀ a, B = some a → 0 < m → a.block < W.heap.size) :
    VC Try.prog 3 [.agg #[.int .i64 p.code, .int .i64 p.id, .slice A n c], .slice B m d] W (fun v w' => v = .bool true ∧ Keep No W w') := by
  refine VC.of tt_ok Try.func3 rfl (by decide +kernel) (Nat.le_of_ble_eq_true rfl) ?_; (conv => whnf)
  refine ⟨fun w1 hb1 hk1 => ?_⟩; have hb1_lt := Blk.lt hb1; have hk1_sz := hk1.size; (conv => whnf)
  refine (awake_ok w1).mono ?_
  rintro v w2 ⟨rfl, hk2⟩
  have kp := hk1.trans hk2
  have hb1 := hb1.keepNo hk2
  (conv => whnf)
  refine VLoad.by_ ((hb1).cell 2) ?_; (conv => whnf)
  refine VCmp.mk (fun h1 => ?_) (fun h1 => ?_) <;> (conv => whnf)
  · exact ⟨rfl, kp⟩
  refine VCmp.mk (fun h2 => ?_) (fun h2 => ?_) <;> (conv => whnf)
  · exact ⟨rfl, kp⟩
  refine VLoads.blk hb1 rfl ?_
  (conv => whnf)
  refine (encode_ok (p := p) w2 (hs.keepNo kp) (by omega)).mono ?_
  rintro v w3 ⟨⟨A3, c3, rfl, ho3⟩, hk3⟩
  have kp := kp.keepNo hk3; have hb1 := hb1.keepNo hk3
  (conv => whnf)
  refine VLoads.blk hb1 rfl ?_
  (conv => whnf)
  refine (refEncode_ok (p := p) w3 (hs.keepNo kp) (by omega)).mono ?_
  rintro v w4 ⟨⟨A4, c4, rfl, ho4⟩, hk4⟩
  have kp := kp.keepNo hk4; have hb1 := hb1.keepNo hk4; have ho3 := ho3.keepNo hk4
  (conv => whnf)
  refine (decode_ok w4 (hr.keepNo kp) (by omega) hmd).mono ?_
  rintro v w5 ⟨x, rfl, hx, hk5⟩
  have kp := kp.keepNo hk5; have ho3 := ho3.keepNo hk5; have ho4 := ho4.keepNo hk5
  have hx0 := hx
  obtain ⟨A5, n5, c5, rfl, _⟩ := hx0
  (conv => whnf)
  refine ⟨fun w6 hb6 hk6 => ?_⟩; have hb6_lt := Blk.lt hb6; have hk6_sz := hk6.size; (conv => whnf); (refine VReq.mk ⟨rfl, (fun u hu => List.all_eq_true.mp (show List.all _ (fun u => u.oneCell') = true by rfl) u hu)⟩ ?_; (conv => whnf)); refine VStore.all hb6 rfl ?_; intro w7 hb7 hk7 hk7_sz; have hk7 := Keep.fresh_ hk6 hk7 (Nat.le_refl _); (conv => whnf)
  have kp := kp.keepNo hk7; have ho3 := ho3.keepNo hk7; have ho4 := ho4.keepNo hk7; have hx := hx.keepNo hk7
  refine (refDecode_ok w7 (hr.keepNo kp) (by omega) hmd).mono ?_
  rintro v w8 ⟨y, rfl, hy, hk8⟩
  have kp := kp.keepNo hk8; have ho3 := ho3.keepNo hk8; have ho4 := ho4.keepNo hk8; have hx := hx.keepNo hk8; have hb7 := hb7.keepNo hk8
  have hy0 := hy
  obtain ⟨A8, n8, c8, rfl, _⟩ := hy0
  (conv => whnf)
  refine ⟨fun w9 hb9 hk9 => ?_⟩; have hb9_lt := Blk.lt hb9; have hk9_sz := hk9.size; (conv => whnf); (refine VReq.mk ⟨rfl, (fun u hu => List.all_eq_true.mp (show List.all _ (fun u => u.oneCell') = true by rfl) u hu)⟩ ?_; (conv => whnf)); refine VStore.all hb9 rfl ?_; intro w10 hb10 hk10 hk10_sz; have hk10 := Keep.fresh_ hk9 hk10 (Nat.le_refl _); (conv => whnf)
  have kp := kp.keepNo hk10; have ho3 := ho3.keepNo hk10; have ho4 := ho4.keepNo hk10; have hx := hx.keepNo hk10; have hb7 := hb7.keepNo hk10; have hy := hy.keepNo hk10
  refine VCmp.mk (fun _ => ?_) (fun h => absurd rfl h); (conv => whnf)
  have hen : (encodeP p).1.length ≤ 5000 := by
    unfold encodeP
    split
    · simp
    · split
      · simp
      · simp [Pk.head]; omega
  refine (same_ok w10 (Sl.ofOwn ho3) (Sl.ofOwn ho4) (by omega)).mono ?_
  rintro v w11 ⟨rfl, hk11⟩
  have kp := kp.keepNo hk11; have hx := hx.keepNo hk11; have hb7 := hb7.keepNo hk11; have hy := hy.keepNo hk11; have hb10 := hb10.keepNo hk11
  rw [decide_eq_true rfl]
  (conv => whnf)
  refine VCmp.mk (fun _ => ?_) (fun h => absurd rfl h); (conv => whnf)
  refine VLoads.blk hb7 rfl ?_
  (conv => whnf)
  refine VLoads.blk hb10 rfl ?_
  (conv => whnf)
  have hdl : (decodeP l).1.data.length ≤ 3000 := by
    unfold decodeP
    split
    · simp [Pk.zero]
    · split
      · simp [Pk.zero]
      · split
        · simp [Pk.zero]
        · split
          · simp [Pk.zero]
          · show ((l.take _).drop 4).length ≤ _; rw [List.length_drop, List.length_take]; omega
  refine (samePacket_ok w11 hx hy (by omega)).mono ?_
  rintro v w12 ⟨rfl, hk12⟩
  rw [decide_eq_true rfl]
  (conv => whnf)
  exact ⟨rfl, kp.trans hk12⟩

/-! ### The statement -/
theorem packetCodes_own : ownKnob Try.prog.godebug = none := by kernel_rfl
theorem packetCodes_laid : laidOutB Try.prog = true := by kernel_rfl
set_option maxRecDepth 100000 in
theorem packetCodes_lifted (os : Os) (started : os.Started) (H : Type) (enc : TypeId × Value → H) :
    ReturnsInHanded {} Try.checked os 3 .any (Rows.packetCodesSpec.pre6 enc Try.prog Try.f3 Rows.packetCodesRow.domain false) (Rows.packetCodesSpec.post enc Try.prog Try.f3 false true false false) := by
  refine returnsInHanded_of_change (C := Try.checked) packetCodes_own started (by kernel_rfl) Try.func3
    (ChangeSpec.witness6 (enc := enc) (C := Try.checked) false ⟨#[], #[.agg #[.int .i64 0, .int .i64 0, .slice none 0 0], .slice none 0 0], []⟩ 8 (by kernel_rfl) (by kernel_rfl) (by kernel_rfl) (by kernel_rfl)) ?_
  intro W base args ds gs before hval0 hW hcnd _
  have hval : ∀ (j : Nat) t v, Try.f3.params[j]? = some t → args[j]? = some v → Value.okWide Try.prog W .any base t v := hval0
  have hW' := hW
  obtain ⟨p, q, hA0, hV, rfl, hfz, hnd⟩ := hW
  have hA : DataW.TrodAll enc Try.prog W 0 (fun _ => true) true Try.f3.params.toList args.toList ds p := hA0
  rw [Try.params3] at hA hval
  obtain ⟨v0, vs0, d0, ds0, p0, q0, hargs, rfl, rfl, h0, r0⟩ := trodAll_cons hA
  obtain ⟨v1, vs1, d1, ds1, p1, q1, rfl, rfl, rfl, h1, r1⟩ := trodAll_cons r0
  obtain ⟨rfl, rfl, rfl⟩ := trodAll_nil r1
  obtain rfl : args = #[v0, v1] := by cases args; simp_all
  obtain ⟨rfl, rfl⟩ := trodVars_none hV
  have k0 := h0
  have lt0 : ∀ x ∈ p0, x.block < W.heap.size := by obtain ⟨m, hm⟩ := k0; exact DataW.trod_lt m _ _ _ hm
  obtain ⟨cs0, rfl, _⟩ := okWide_struct Try.underlying24 (hval 0 24 v0 rfl rfl)
  obtain ⟨fuel0, hf0⟩ := h0
  obtain ⟨pk0, A0, n0, c0, e0, s0, ln0, nc0, cc0⟩ := open_packet hf0
  subst e0
  have k1 := h1
  have lt1 : ∀ x ∈ p1, x.block < W.heap.size := by obtain ⟨m, hm⟩ := k1; exact DataW.trod_lt m _ _ _ hm
  obtain ⟨aa1, la1, ca1, rfl⟩ := okWide_slice Try.underlying22 (hval 1 22 v1 rfl rfl)
  obtain ⟨fuel1, hf1⟩ := h1
  obtain ⟨A1, n1, c1, l1, e1, s1, ln1, nc1, cc1, b1⟩ := open_bytes Try.underlying22 Try.underlying5 (by kernel_rfl) hf1
  cases e1
  clear hA0 hval0
  refine (VC.law (packetCodes_ok W pk0 A0 n0 c0 s0 ln0 nc0 cc0 aa1 la1 ca1 l1 s1 nc1 cc1 b1)).mono fun e W' ⟨he, bel⟩ => ?_
  subst he
  exact ⟨_, rfl, _, _, _, [], _, [], hW', trodAll_mk1 (shut_bool Try.underlying4 _), (trodAll_cons_mk (Below.trod packetCodes_laid (by kernel_rfl) (of_decide_eq_true (by kernel_rfl)) k0 bel lt0) (trodAll_cons_mk (Below.trod packetCodes_laid (by kernel_rfl) (of_decide_eq_true (by kernel_rfl)) k1 bel lt1) trodAll_mk0)), rfl, bel.frame _, fun h => by cases h⟩

theorem packetCodes_over : Rows.packetCodesRow.holds Try.pinned (OpenSpec.ofChange Rows.packetCodesSpec) :=
  OpenClaim.holds_of_wide 3 Try.f3 rfl rfl rfl rfl rfl rfl rfl ⟨rfl, rfl, rfl, rfl, rfl⟩ rfl rfl rfl rfl rfl (by kernel_rfl) Try.func3 (by kernel_rfl)
    (of_decide_eq_true (by kernel_rfl)) (by unfold Func.isWrapper; first | (rw [if_pos (by decide +kernel)]; kernel_rfl) | (rw [if_neg (by decide +kernel)]; exact ⟨rfl, rfl⟩))
    (fun os started H enc _ => packetCodes_lifted os started H enc)

theorem packetCodes_proved : Rows.PacketCodesSaid := packetCodes_over
#print axioms packetCodes_proved
end Go.Proofs.Ytififgodhnelgaa
