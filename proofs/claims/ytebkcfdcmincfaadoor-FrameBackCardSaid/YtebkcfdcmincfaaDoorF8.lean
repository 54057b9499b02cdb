/-
  Frames there and back, in plain Lean; chapter 4's examples. A closed statement.
-/
import Derived.Test.YtebkcfdcmincfaaDoorF7
namespace Go.Proofs.YtebkcfdcmincfaaDoor
open Go V Go.ChangeShapes Go.WideShapes Go.ChangeAt Go.RowKit

theorem fieldP_two (h l : UInt8) (r : List UInt8) (g : Fo) (he : h.toNat % 2 = 0) (lo : l.toNat % 2 = 1) : fieldP (h :: l :: r) g = (((two h l : Nat) : Int), r, 0) := by
  have g0 : (h :: l :: r).getD 0 0 = h := rfl
  have g1 : (h :: l :: r).getD 1 0 = l := rfl
  unfold fieldP
  rw [g0, g1, if_neg (by simp), if_neg (show ¬ (h.toNat % 2 = 1 ∧ g.pfc = false) from fun e => by omega), if_neg (show ¬ h.toNat % 2 = 1 by omega), if_neg (by simp), if_neg (show ¬ l.toNat % 2 = 0 by omega)]
  rfl
theorem fieldP_one (l : UInt8) (r : List UInt8) (g : Fo) (lo : l.toNat % 2 = 1) : fieldP (l :: r) g = if g.pfc then (((l.toNat : Nat) : Int), r, 0) else (0, [], 4) := by
  have g0 : (l :: r).getD 0 0 = l := rfl
  unfold fieldP
  rw [g0, if_neg (by simp)]
  cases hq : g.pfc with
  | false => rw [if_pos (show l.toNat % 2 = 1 ∧ false = false from ⟨lo, rfl⟩)]; rfl
  | true => rw [if_neg (show ¬ (l.toNat % 2 = 1 ∧ true = false) from fun e => by cases e.2), if_pos (show l.toNat % 2 = 1 from lo)]; rfl
/-- Is the info too long? -/
def fitP (q : Int × List UInt8 × Int) : Int × List UInt8 × Int := if q.2.2 = 0 ∧ 1516 < q.2.1.length then (0, [], 3) else q
theorem decF_on (r : List UInt8) (g : Fo) : decF (255 :: 3 :: r) g = fitP (fieldP r g) := by
  have : skipP (255 :: 3 :: r) g = some r := by
    unfold skipP
    rw [if_pos ⟨by simp, by rfl, by rfl⟩]
    rfl
  unfold decF
  rw [this]
  rfl
theorem decF_off (x : UInt8) (r : List UInt8) (g : Fo) (hx : x.toNat ≠ 255) : decF (x :: r) g = if g.acfc then fitP (fieldP (x :: r) g) else (0, [], 4) := by
  have : skipP (x :: r) g = if g.acfc then some (x :: r) else none := by
    have g0 : (x :: r).getD 0 0 = x := rfl
    unfold skipP
    rw [g0, if_neg (fun e => hx e.2.1)]
  unfold decF
  rw [this]
  cases g.acfc <;> rfl
theorem fitP_ok {p : Int} {l : List UInt8} (h : l.length ≤ 1516) : fitP (p, l, 0) = (p, l, 0) := by
  unfold fitP
  rw [if_neg (fun e => by have := e.2; simp at this; omega)]

theorem may_bits {p : Int} (h : mayB p = true) : 0 ≤ p ∧ p ≤ 65535 ∧ p.toNat % 2 = 1 ∧ p.toNat / 256 % 2 = 0 ∧ p ≠ 255 := by
  obtain ⟨h1, h2, h3, h4, h5⟩ := (may_prop p).1 h
  refine ⟨h1, h2, by rw [Nat.and_one_is_mod] at h3; exact h3, ?_, h5⟩
  have h6 := congrArg (fun k => Nat.testBit k 8) h4
  simp only [Nat.testBit_and] at h6
  have e : Nat.testBit 256 8 = true := by decide
  rw [e, Bool.and_true, Nat.zero_testBit, Nat.testBit_eq_decide_div_mod_eq] at h6
  have h7 := of_decide_eq_false h6
  have : p.toNat / 2 ^ 8 = p.toNat / 256 := rfl
  omega

theorem hi_nat {p : Int} (h : 0 ≤ p ∧ p ≤ 65535) : (UInt8.ofNat (p.toNat / 2 ^ 8)).toNat = p.toNat / 256 := by
  have : (UInt8.ofNat (p.toNat / 2 ^ 8)).toNat = p.toNat / 2 ^ 8 % 256 := by simp
  rw [this]
  have : p.toNat / 2 ^ 8 = p.toNat / 256 := rfl
  omega
theorem lo_nat {p : Int} : (UInt8.ofNat p.toNat).toNat = p.toNat % 256 := by simp

/-- The wide form of a protocol that may be. -/
theorem field_wide {p : Int} (h : mayB p = true) (info : List UInt8) (g : Fo) : fieldP (UInt8.ofNat (p.toNat / 2 ^ 8) :: UInt8.ofNat p.toNat :: info) g = (p, info, 0) := by
  obtain ⟨h1, h2, h3, h4, h5⟩ := may_bits h
  rw [fieldP_two _ _ _ _ (by rw [hi_nat ⟨h1, h2⟩]; exact h4) (by rw [lo_nat]; omega)]
  unfold two
  rw [hi_nat ⟨h1, h2⟩, lo_nat]
  refine congrArg (fun k => (k, info, (0 : Int))) ?_
  omega
theorem field_short {p : Int} (h : mayB p = true) (hp : p ≤ 255) (info : List UInt8) (g : Fo) : fieldP (UInt8.ofNat p.toNat :: info) g = if g.pfc then (p, info, 0) else (0, [], 4) := by
  obtain ⟨h1, h2, h3, h4, h5⟩ := may_bits h
  rw [fieldP_one _ _ _ (by rw [lo_nat]; omega), lo_nat]
  have : ((p.toNat % 256 : Nat) : Int) = p := by omega
  rw [this]
theorem lo_ne {p : Int} (h : mayB p = true) (hp : p ≤ 255) : (UInt8.ofNat p.toNat).toNat ≠ 255 := by
  obtain ⟨h1, h2, h3, h4, h5⟩ := may_bits h
  rw [lo_nat]
  omega
theorem hi_ne {p : Int} (h : mayB p = true) : (UInt8.ofNat (p.toNat / 2 ^ 8)).toNat ≠ 255 := by
  obtain ⟨h1, h2, h3, h4, h5⟩ := may_bits h
  rw [hi_nat ⟨h1, h2⟩]
  omega

/-- What is made with a form is read with that form, or with one that lets more out. -/
theorem decF_head {p : Int} (h : mayB p = true) (info : List UInt8) (hi : info.length ≤ 1516) (f g : Fo) (ha : f.acfc = true → g.acfc = true) (hq : f.pfc = true → g.pfc = true) : decF (headP p f ++ info) g = (p, info, 0) := by
  by_cases hl : p = 49185
  · rw [headP_lcp hl]
    show decF (255 :: 3 :: (UInt8.ofNat (p.toNat / 2 ^ 8) :: UInt8.ofNat p.toNat :: info)) g = _
    rw [decF_on, field_wide h, fitP_ok hi]
  · obtain ⟨a, q⟩ := f
    by_cases hw : q = false ∨ 255 < p
    · rw [headP_w hl hw]
      cases a with
      | false =>
        show decF (255 :: 3 :: (UInt8.ofNat (p.toNat / 2 ^ 8) :: UInt8.ofNat p.toNat :: info)) g = _
        rw [decF_on, field_wide h, fitP_ok hi]
      | true =>
        show decF (UInt8.ofNat (p.toNat / 2 ^ 8) :: UInt8.ofNat p.toNat :: info) g = _
        rw [decF_off _ _ _ (hi_ne h), if_pos (ha rfl), field_wide h, fitP_ok hi]
    · have hqt : q = true := by
        cases q
        · exact absurd (.inl rfl) hw
        · rfl
      subst hqt
      have hp : p ≤ 255 := by
        rcases Int.lt_or_le 255 p with h1 | h1
        · exact absurd (.inr h1) hw
        · exact h1
      rw [headP_n hl hp]
      cases a with
      | false =>
        show decF (255 :: 3 :: (UInt8.ofNat p.toNat :: info)) g = _
        rw [decF_on, field_short h hp, if_pos (hq rfl), fitP_ok hi]
      | true =>
        show decF (UInt8.ofNat p.toNat :: info) g = _
        rw [decF_off _ _ _ (lo_ne h hp), if_pos (ha rfl), field_short h hp, if_pos (hq rfl), fitP_ok hi]
theorem encF_ok {p : Int} {info : List UInt8} {f : Fo} (h : mayB p = true) (hi : info.length ≤ 1516) : encF p info f = (headP p f ++ info, 0) := by
  unfold encF
  rw [if_pos h, if_neg (by omega)]

theorem frameKnown_ok (W : World) (hg : EtOk W) : VC Tryd.prog 3 [] W (fun v w' => v = .bool true ∧ Keep No W w') := by
  refine VC.of tt_ok Tryd.func3 rfl (by decide +kernel) (Nat.le_of_ble_eq_true rfl) ?_; (conv => whnf)
  refine (awake_ok W hg).mono ?_
  rintro v w1 ⟨rfl, kp⟩
  (conv => whnf)
  refine VFill.by_ rfl ?_; (conv => whnf)
  refine ⟨fun w2 hb2 hk2 => ?_⟩; have hb2_lt := Blk.lt hb2; have hk2_sz := hk2.size; (conv => whnf); (refine VReq.mk ⟨rfl, (fun u hu => List.all_eq_true.mp (show List.all _ (fun u => u.oneCell') = true by rfl) u hu)⟩ ?_; (conv => whnf)); refine VStore.all hb2 rfl ?_; intro w3 hb3 hk3 hk3_sz; have hk3 := Keep.fresh_ hk2 hk3 (Nat.le_refl _); (conv => whnf)
  have kp := kp.keepNo hk3
  refine VFill.by_ rfl ?_; (conv => whnf)
  refine ⟨fun w4 hb4 hk4 => ?_⟩; have hb4_lt := Blk.lt hb4; have hk4_sz := hk4.size; (conv => whnf)
  have kp := kp.keepNo hk4; have hb3 := hb3.keepNo hk4
  refine VFill.by_ rfl ?_; (conv => whnf)
  refine (encode_ok w4 33 (l := [69]) ⟨false, false⟩ (Sl.ofBlk (n := 1) (size := 1) hb4 rfl) (by omega)).mono ?_
  rintro v w5 ⟨⟨A5, c5, rfl, ho5⟩, hk5⟩
  rw [show encF 33 [69] ⟨false, false⟩ = ([255, 3, 0, 33, 69], 0) from by decide] at *
  have kp := kp.keepNo hk5; have hb3 := hb3.keepNo hk5
  (conv => whnf)
  refine VFill.by_ rfl ?_; (conv => whnf)
  refine ⟨fun w6 hb6 hk6 => ?_⟩; have hb6_lt := Blk.lt hb6; have hk6_sz := hk6.size; (conv => whnf)
  have kp := kp.keepNo hk6; have hb3 := hb3.keepNo hk6; have ho5 := ho5.keepNo hk6
  refine VLoads.blk hb3 rfl ?_
  (conv => whnf)
  refine (encode_ok w6 49185 (l := [1]) ⟨true, true⟩ (Sl.ofBlk (n := 1) (size := 1) hb6 rfl) (by omega)).mono ?_
  rintro v w7 ⟨⟨A7, c7, rfl, ho7⟩, hk7⟩
  rw [show encF 49185 [1] ⟨true, true⟩ = ([255, 3, 192, 33, 1], 0) from by decide] at *
  have kp := kp.keepNo hk7; have hb3 := hb3.keepNo hk7; have ho5 := ho5.keepNo hk7
  (conv => whnf)
  refine VFill.by_ rfl ?_; (conv => whnf)
  refine ⟨fun w8 hb8 hk8 => ?_⟩; have hb8_lt := Blk.lt hb8; have hk8_sz := hk8.size; (conv => whnf)
  have kp := kp.keepNo hk8; have hb3 := hb3.keepNo hk8; have ho5 := ho5.keepNo hk8; have ho7 := ho7.keepNo hk8
  refine VFill.by_ rfl ?_; (conv => whnf)
  refine (decode_ok w8 (l := [33, 69]) ⟨false, false⟩ (Sl.ofBlk (n := 2) (size := 1) hb8 rfl) (by omega) (by omega) (hg.keepNo kp)).mono ?_
  rintro v w9 ⟨⟨A9, c9, rfl, ho9⟩, hk9⟩
  rw [show decF [33, 69] ⟨false, false⟩ = (0, [], 4) from by decide] at *
  have kp := kp.keepNo hk9; have hb3 := hb3.keepNo hk9; have ho5 := ho5.keepNo hk9; have ho7 := ho7.keepNo hk9
  (conv => whnf)
  refine VLoads.blk hb3 rfl ?_
  (conv => whnf)
  refine (encode_ok w9 32 (l := []) ⟨true, true⟩ Sl.nil (by omega)).mono ?_
  rintro v w10 ⟨⟨A10, c10, rfl, ho10⟩, hk10⟩
  rw [show encF 32 [] ⟨true, true⟩ = ([], 1) from by decide] at *
  have kp := kp.keepNo hk10; have ho5 := ho5.keepNo hk10; have ho7 := ho7.keepNo hk10
  (conv => whnf)
  refine VFill.by_ rfl ?_; (conv => whnf)
  refine ⟨fun w11 hb11 hk11 => ?_⟩; have hb11_lt := Blk.lt hb11; have hk11_sz := hk11.size; (conv => whnf)
  have kp := kp.keepNo hk11; have ho5 := ho5.keepNo hk11; have ho7 := ho7.keepNo hk11
  refine (same_ok w11 (r := [255, 3, 0, 33, 69]) (Sl.ofOwn ho5) (Sl.ofBlk (n := 5) (size := 1) hb11 rfl) (by decide)).mono ?_
  rintro v w12 ⟨rfl, hk12⟩
  rw [decide_eq_true rfl]
  have kp := kp.keepNo hk12; have ho7 := ho7.keepNo hk12
  (conv => whnf)
  refine VFill.by_ rfl ?_; (conv => whnf)
  refine ⟨fun w13 hb13 hk13 => ?_⟩; have hb13_lt := Blk.lt hb13; have hk13_sz := hk13.size; (conv => whnf)
  have kp := kp.keepNo hk13; have ho7 := ho7.keepNo hk13
  refine (same_ok w13 (r := [255, 3, 192, 33, 1]) (Sl.ofOwn ho7) (Sl.ofBlk (n := 5) (size := 1) hb13 rfl) (by decide)).mono ?_
  rintro v w14 ⟨rfl, hk14⟩
  rw [decide_eq_true rfl]
  have kp := kp.keepNo hk14
  (conv => whnf)
  refine VCmp.mk (fun _ => ?_) (fun h => absurd rfl h); (conv => whnf)
  refine VCmp.mk (fun _ => ?_) (fun h => absurd rfl h); (conv => whnf)
  refine (may_ok w14 289).mono ?_
  rintro v w' ⟨rfl, rfl⟩
  rw [show mayB 289 = false from by decide]
  (conv => whnf)
  exact ⟨rfl, kp⟩
/-! ### The statement -/
theorem frameKnown_own : ownKnob Tryd.prog.godebug = none := by kernel_rfl
theorem frameKnown_laid : laidOutB Tryd.prog = true := by kernel_rfl
set_option maxRecDepth 100000 in
theorem frameKnown_lifted (os : Os) (started : os.Started) (H : Type) (enc : TypeId × Value → H) :
    ReturnsInHanded {} Tryd.checked os 3 .any (fun w args => (Rows.frameKnownSpec.pre enc Tryd.prog Tryd.f3 Rows.frameKnownRow.domain false w args ∧ laidMetH Tryd.prog laidL w) ∧ sizedMet enc Tryd.prog Tryd.f3 (OpenSpec.ofChange Rows.frameKnownSpec) false w args) (Rows.frameKnownSpec.post enc Tryd.prog Tryd.f3 false true false false) := by
  refine returnsInHanded_of_change_and (C := Tryd.checked) (X := fun w _ => laidMetH Tryd.prog laidL w) (fun _ _ _ hh h => h.of_heap hh) frameKnown_own started (by kernel_rfl) Tryd.func3
    (ChangeSpec.witness_at (enc := enc) (C := Tryd.checked) (os := os) (X := fun w _ => laidMetH Tryd.prog laidL w) false (laidWorld os) #[] 8 rfl (by kernel_rfl) (by kernel_rfl) (by kernel_rfl) (by kernel_rfl) (by kernel_rfl) (laidWorld_met os _)) ?_
  intro W base args ds gs before hval0 hW hcnd _ hL _
  have hg := handle_of_laid hL
  have hval : ∀ (j : Nat) t v, Tryd.f3.params[j]? = some t → args[j]? = some v → Value.okWide Tryd.prog W .any base t v := hval0
  have hW' := hW
  obtain ⟨p, q, hA0, hV, rfl, hfz, hnd⟩ := hW
  have hA : DataW.TrodAll enc Tryd.prog W 0 (fun _ => true) true Tryd.f3.params.toList args.toList ds p := hA0
  rw [Tryd.params3] at hA hval
  obtain ⟨rfl, rfl, rfl⟩ := trodAll_none hA
  obtain ⟨rfl, rfl⟩ := trodVars_none hV
  clear hA0 hval0
  refine (VC.law (frameKnown_ok W hg )).mono fun e W' ⟨he, bel⟩ => ?_
  subst he
  exact ⟨_, rfl, _, _, _, [], [], [], hW', trodAll_mk1 (shut_bool Tryd.underlying4 _), trodAll_mk0, rfl, bel.frame _, fun h => by cases h⟩

theorem frameKnown_over : Rows.frameKnownRow.holds Tryd.pinned (OpenSpec.ofChange Rows.frameKnownSpec) :=
  OpenClaim.holds_of_wide 3 Tryd.f3 rfl rfl rfl rfl rfl rfl rfl ⟨rfl, rfl, rfl, rfl, rfl⟩ rfl rfl rfl rfl rfl (by kernel_rfl) Tryd.func3 (by kernel_rfl)
    (of_decide_eq_true (by kernel_rfl)) (by unfold Func.isWrapper; first | (rw [if_pos (by decide +kernel)]; kernel_rfl) | (rw [if_neg (by decide +kernel)]; exact ⟨rfl, rfl⟩))
    (fun os started H enc _ => frameKnown_lifted os started H enc)


theorem frameKnown_proved : Rows.FrameKnownCardSaid :=
  Claim7.holds_tied_plain_at .later [] [.handle] true (true, "febc034ccf11541b4f349216a09937fe34c75095d19bc848434b020eb5eb71bc") true
    frameKnown_over (fun _ h => by cases h) (by kernel_rfl) (fun _ h => by cases h) frameKnown_row_tie rfl ⟨rfl, rfl⟩ (by kernel_rfl) rfl
    (fun f fn hf hfn => by
      obtain rfl : f = 3 := Option.some.inj ((show Tryd.prog.funcNamed "fairlead/fairleadlaw4.FrameKnown" = some 3 by kernel_rfl).symm.trans hf) |>.symm
      obtain rfl : fn = Tryd.f3 := (Option.some.inj (Tryd.func3.symm.trans hfn)).symm
      exact ⟨by kernel_rfl, fun j t ht => by
        rw [Tryd.params3] at ht
        exact (match j, ht with

      | j + 0, ht => by simp at ht)⟩)
    (by kernel_rfl)
#print axioms frameKnown_proved
end Go.Proofs.YtebkcfdcmincfaaDoor
