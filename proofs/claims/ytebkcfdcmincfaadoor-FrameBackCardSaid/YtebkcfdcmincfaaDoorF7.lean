/-
  Forms as they come in; awake; any protocol, any bytes, any form: the frame, or what is wrong; any bytes: what they say, or what is wrong. For every input.
-/
import Derived.Test.YtebkcfdcmincfaaDoorF6
import Derived.Test.YtebkcfdcmincfaaDoorLd
import Derived.Test.YtebkcfdcmincfaaDoorVl
namespace Go.Proofs.YtebkcfdcmincfaaDoor
open Go V Go.ChangeShapes Go.WideShapes Go.ChangeAt Go.RowKit

section
variable {H : Type} {enc : TypeId × Value → H} {w : World} {spare : Nat → Bool} {held : Bool}
theorem open_form {fuel : Nat} {cs : Array Value} {x : DataW H × List MemPlace} (h : DataW.trod enc Tryd.prog w 0 spare held fuel TFo cs.toList = some x) :
    ∃ f : Fo, cs = #[.bool f.acfc, .bool f.pfc] := by
  obtain ⟨y0, y1, n, _, hlen, t0, t1⟩ := trod_struct2 Tryd.underlying24 h
  have hc : Tryd.prog.cellsOf TFo = 2 := by kernel_rfl
  have hi : Tryd.prog.cellsOf 4 = 1 := by kernel_rfl
  rw [hc] at hlen
  obtain ⟨l⟩ := cs
  have hl3 : l.length = 2 := hlen
  rcases l with _ | ⟨a, _ | ⟨b, _ | ⟨c, l⟩⟩⟩ <;> first | (exfalso; simp at hl3; done) | skip
  · simp only [hi, List.drop_zero, List.drop_succ_cons, List.take_succ_cons, List.take_zero] at t0 t1
    obtain ⟨z0, e0, _⟩ := DataW.trod_bool Tryd.underlying4 t0
    obtain ⟨z1, e1, _⟩ := DataW.trod_bool Tryd.underlying4 t1
    cases e0
    cases e1
    exact ⟨⟨z0, z1⟩, rfl⟩
end

theorem awake_ok (w : World) (hg : EtOk w) : VC Tryd.prog 9 [] w (fun v w' => v = .bool true ∧ Keep No w w') := by
  refine VC.of tt_ok Tryd.func9 rfl (by decide +kernel) (Nat.le_of_ble_eq_true rfl) ?_; (conv => whnf)
  refine VFill.by_ rfl ?_; (conv => whnf)
  refine ⟨fun w1 hb1 kp => ?_⟩; have hb1_lt := Blk.lt hb1; have kp_sz := kp.size; (conv => whnf)
  refine VFill.by_ rfl ?_; (conv => whnf)
  refine (encode_ok w1 33 (l := [0x45]) ⟨true, true⟩ (Sl.ofBlk (n := 1) (size := 1) hb1 rfl) (by omega)).mono ?_
  rintro v w2 ⟨⟨A2, c2, rfl, ho2⟩, hk2⟩
  rw [show encF 33 [0x45] ⟨true, true⟩ = ([0x21, 0x45], 0) from by decide] at *
  have kp := kp.keepNo hk2
  (conv => whnf)
  refine VFill.by_ rfl ?_; (conv => whnf)
  refine (decode_ok w2 (l := [0x21, 0x45]) ⟨true, true⟩ (Sl.ofOwn ho2) (by decide) ho2.le (hg.keepNo kp)).mono ?_
  rintro v w3 ⟨⟨A3, c3, rfl, ho3⟩, hk3⟩
  rw [show decF [0x21, 0x45] ⟨true, true⟩ = (0x21, [0x45], 0) from by decide] at *
  have kp := kp.keepNo hk3
  (conv => whnf)
  refine VCmp.mk (fun _ => ?_) (fun h => absurd rfl h); (conv => whnf)
  refine VCmp.mk (fun _ => ?_) (fun h => absurd rfl h); (conv => whnf)
  refine VCmp.mk (fun _ => ?_) (fun h => absurd rfl h); (conv => whnf)
  refine VCmp.mk (fun _ => ?_) (fun h => absurd rfl h); (conv => whnf)
  refine VCmp.mk (fun _ => ?_) (fun h => absurd rfl h); (conv => whnf)
  exact ⟨rfl, kp⟩

theorem frameCodes_ok (W : World) (hg : EtOk W) (p : Int) (_ : -9223372036854775808 ≤ p ∧ p ≤ 9223372036854775807) (A : Option Addr) (n c : Nat) (l : List UInt8) (hs : Sl W 1 A n (l.map vb)) (hnc : n ≤ c) (_ : c ≤ 9223372036854775807) (_ : ∀ a, A = some a → 0 < n → a.block < W.heap.size) (f : Fo) :
    VC Tryd.prog 4 [.int .i64 p, .slice A n c, f.v] W (fun v w' => v = .bool true ∧ Keep No W w') := by
  have hl : l.length = n := by simpa using hs.len
  unfold Fo.v
  refine VC.of tt_ok Tryd.func4 rfl (by decide +kernel) (Nat.le_of_ble_eq_true rfl) ?_; (conv => whnf)
  refine ⟨fun w1 hb kp => ?_⟩; have hb_lt := Blk.lt hb; have kp_sz := kp.size; (conv => whnf)
  refine (awake_ok w1 (hg.keepNo kp)).mono ?_
  rintro v w2 ⟨rfl, hk2⟩
  have kp := kp.keepNo hk2; have hb := hb.keepNo hk2
  (conv => whnf)
  refine VCmp.mk (fun h => ?_) (fun h => ?_) <;> (conv => whnf)
  · exact ⟨rfl, kp⟩
  refine VLoads.blk hb rfl ?_
  (conv => whnf)
  refine (encode_ok w2 p f (hs.keepNo kp) (by omega)).mono ?_
  rintro v w3 ⟨⟨A3, c3, rfl, ho3⟩, hk3⟩
  have kp := kp.keepNo hk3; have hb := hb.keepNo hk3
  (conv => whnf)
  refine VLoads.blk hb rfl ?_
  (conv => whnf)
  refine (refEncode_ok w3 p f (hs.keepNo kp) (by omega)).mono ?_
  rintro v w4 ⟨⟨A4, c4, rfl, ho4⟩, hk4⟩
  have kp := kp.keepNo hk4; have hb := hb.keepNo hk4; have ho3 := ho3.keepNo hk4
  (conv => whnf)
  refine VLoads.blk hb rfl ?_
  (conv => whnf)
  refine (decode_ok w4 f (hs.keepNo kp) (by omega) hnc (hg.keepNo kp)).mono ?_
  rintro v w5 ⟨⟨A5, c5, rfl, ho5⟩, hk5⟩
  have kp := kp.keepNo hk5; have hb := hb.keepNo hk5; have ho3 := ho3.keepNo hk5; have ho4 := ho4.keepNo hk5
  (conv => whnf)
  refine VLoads.blk hb rfl ?_
  (conv => whnf)
  refine (refDecode_ok w5 f (hs.keepNo kp) (by omega) hnc).mono ?_
  rintro v w6 ⟨⟨A6, c6, rfl, ho6⟩, hk6⟩
  have kp := kp.keepNo hk6; have ho3 := ho3.keepNo hk6; have ho4 := ho4.keepNo hk6; have ho5 := ho5.keepNo hk6
  (conv => whnf)
  have hel := encF_len p l f
  have hdl := decF_len l f
  refine VCmp.mk (fun _ => ?_) (fun h => absurd rfl h); (conv => whnf)
  refine (same_ok w6 (Sl.ofOwn ho3) (Sl.ofOwn ho4) (by omega)).mono ?_
  rintro v w7 ⟨rfl, hk7⟩
  rw [decide_eq_true rfl]
  have kp := kp.keepNo hk7; have ho5 := ho5.keepNo hk7; have ho6 := ho6.keepNo hk7
  (conv => whnf)
  refine (may_ok w7 p).mono ?_
  rintro v w' ⟨rfl, rfl⟩
  (conv => whnf)
  refine (refMay_ok w7 p).mono ?_
  rintro v w' ⟨rfl, rfl⟩
  (conv => whnf)
  rw [show (mayB p == mayB p) = true from by simp]
  (conv => whnf)
  refine VCmp.mk (fun _ => ?_) (fun h => absurd rfl h); (conv => whnf)
  refine VCmp.mk (fun _ => ?_) (fun h => absurd rfl h); (conv => whnf)
  refine (same_ok w7 (Sl.ofOwn ho5) (Sl.ofOwn ho6) (by omega)).mono ?_
  rintro v w8 ⟨rfl, hk8⟩
  rw [decide_eq_true rfl]
  (conv => whnf)
  exact ⟨rfl, kp.trans hk8⟩

/-! ### The statement -/
theorem frameCodes_own : ownKnob Tryd.prog.godebug = none := by kernel_rfl
theorem frameCodes_laid : laidOutB Tryd.prog = true := by kernel_rfl
set_option maxRecDepth 100000 in
theorem frameCodes_lifted (os : Os) (started : os.Started) (H : Type) (enc : TypeId × Value → H) :
    ReturnsInHanded {} Tryd.checked os 4 .any (fun w args => (Rows.frameCodesSpec.pre enc Tryd.prog Tryd.f4 Rows.frameCodesRow.domain false w args ∧ laidMetH Tryd.prog laidL w) ∧ sizedMet enc Tryd.prog Tryd.f4 (OpenSpec.ofChange Rows.frameCodesSpec) false w args) (Rows.frameCodesSpec.post enc Tryd.prog Tryd.f4 false true false false) := by
  refine returnsInHanded_of_change_and (C := Tryd.checked) (X := fun w _ => laidMetH Tryd.prog laidL w) (fun _ _ _ hh h => h.of_heap hh) frameCodes_own started (by kernel_rfl) Tryd.func4
    (ChangeSpec.witness_at (enc := enc) (C := Tryd.checked) (os := os) (X := fun w _ => laidMetH Tryd.prog laidL w) false (laidWorld os) #[.int .i64 0, .slice none 0 0, .agg #[.bool false, .bool false]] 8 rfl (by kernel_rfl) (by kernel_rfl) (by kernel_rfl) (by kernel_rfl) (by kernel_rfl) (laidWorld_met os _)) ?_
  intro W base args ds gs before hval0 hW hcnd _ hL _
  have hg := handle_of_laid hL
  have hval : ∀ (j : Nat) t v, Tryd.f4.params[j]? = some t → args[j]? = some v → Value.okWide Tryd.prog W .any base t v := hval0
  have hW' := hW
  obtain ⟨p, q, hA0, hV, rfl, hfz, hnd⟩ := hW
  have hA : DataW.TrodAll enc Tryd.prog W 0 (fun _ => true) true Tryd.f4.params.toList args.toList ds p := hA0
  rw [Tryd.params4] at hA hval
  obtain ⟨v0, vs0, d0, ds0, p0, q0, hargs, rfl, rfl, h0, r0⟩ := trodAll_cons hA
  obtain ⟨v1, vs1, d1, ds1, p1, q1, rfl, rfl, rfl, h1, r1⟩ := trodAll_cons r0
  obtain ⟨v2, vs2, d2, ds2, p2, q2, rfl, rfl, rfl, h2, r2⟩ := trodAll_cons r1
  obtain ⟨rfl, rfl, rfl⟩ := trodAll_nil r2
  obtain rfl : args = #[v0, v1, v2] := by cases args; simp_all
  obtain ⟨rfl, rfl⟩ := trodVars_none hV
  have k0 := h0
  have lt0 : ∀ x ∈ p0, x.block < W.heap.size := by obtain ⟨m, hm⟩ := k0; exact DataW.trod_lt m _ _ _ hm
  obtain ⟨a0, rfl, rfl, rfl, w0⟩ := open_int Tryd.underlying3 (hval 0 3 v0 rfl rfl) h0
  have k1 := h1
  have lt1 : ∀ x ∈ p1, x.block < W.heap.size := by obtain ⟨m, hm⟩ := k1; exact DataW.trod_lt m _ _ _ hm
  obtain ⟨aa1, la1, ca1, rfl⟩ := okWide_slice Tryd.underlying25 (hval 1 25 v1 rfl rfl)
  obtain ⟨fuel1, hf1⟩ := h1
  obtain ⟨A1, n1, c1, l1, e1, s1, ln1, nc1, cc1, b1⟩ := open_bytes Tryd.underlying25 Tryd.underlying5 (by kernel_rfl) hf1
  cases e1
  have k2 := h2
  have lt2 : ∀ x ∈ p2, x.block < W.heap.size := by obtain ⟨m, hm⟩ := k2; exact DataW.trod_lt m _ _ _ hm
  obtain ⟨cs2, rfl, _⟩ := okWide_struct Tryd.underlying24 (hval 2 24 v2 rfl rfl)
  obtain ⟨fuel2, hf2⟩ := h2
  obtain ⟨fo2, e2⟩ := open_form hf2
  subst e2
  clear hA0 hval0
  refine (VC.law (frameCodes_ok W hg a0 (int_of w0) aa1 la1 ca1 l1 s1 nc1 cc1 b1 fo2)).mono fun e W' ⟨he, bel⟩ => ?_
  subst he
  exact ⟨_, rfl, _, _, _, [], _, [], hW', trodAll_mk1 (shut_bool Tryd.underlying4 _), (trodAll_cons_mk (Below.trod frameCodes_laid (by kernel_rfl) (of_decide_eq_true (by kernel_rfl)) k0 bel lt0) (trodAll_cons_mk (Below.trod frameCodes_laid (by kernel_rfl) (of_decide_eq_true (by kernel_rfl)) k1 bel lt1) (trodAll_cons_mk (Below.trod frameCodes_laid (by kernel_rfl) (of_decide_eq_true (by kernel_rfl)) k2 bel lt2) trodAll_mk0))), rfl, bel.frame _, fun h => by cases h⟩

theorem frameCodes_over : Rows.frameCodesRow.holds Tryd.pinned (OpenSpec.ofChange Rows.frameCodesSpec) :=
  OpenClaim.holds_of_wide 4 Tryd.f4 rfl rfl rfl rfl rfl rfl rfl ⟨rfl, rfl, rfl, rfl, rfl⟩ rfl rfl rfl rfl rfl (by kernel_rfl) Tryd.func4 (by kernel_rfl)
    (of_decide_eq_true (by kernel_rfl)) (by unfold Func.isWrapper; first | (rw [if_pos (by decide +kernel)]; kernel_rfl) | (rw [if_neg (by decide +kernel)]; exact ⟨rfl, rfl⟩))
    (fun os started H enc _ => frameCodes_lifted os started H enc)


theorem frameCodes_proved : Rows.FrameCodesCardSaid :=
  Claim7.holds_tied_plain_at .later [] [.handle] true (true, "febc034ccf11541b4f349216a09937fe34c75095d19bc848434b020eb5eb71bc") true
    frameCodes_over (fun _ h => by cases h) (by kernel_rfl) (fun _ h => by cases h) frameCodes_row_tie rfl ⟨rfl, rfl⟩ (by kernel_rfl) rfl
    (fun f fn hf hfn => by
      obtain rfl : f = 4 := Option.some.inj ((show Tryd.prog.funcNamed "fairlead/fairleadlaw4.FrameCodes" = some 4 by kernel_rfl).symm.trans hf) |>.symm
      obtain rfl : fn = Tryd.f4 := (Option.some.inj (Tryd.func4.symm.trans hfn)).symm
      exact ⟨by kernel_rfl, fun j t ht => by
        rw [Tryd.params4] at ht
        exact (match j, ht with
      | 0, ht => by obtain rfl : 3 = t := (by simpa using ht); kernel_rfl
      | 1, ht => by obtain rfl : 25 = t := (by simpa using ht); kernel_rfl
      | 2, ht => by obtain rfl : 24 = t := (by simpa using ht); kernel_rfl
      | j + 3, ht => by simp at ht)⟩)
    (by kernel_rfl)
#print axioms frameCodes_proved
end Go.Proofs.YtebkcfdcmincfaaDoor
