/-
  On the line and off it: with flags, sums, a map; any bytes that a deframer told. For every input.
-/
import Derived.Test.YtebkcfdcmincfaaDoorF8
namespace Go.Proofs.YtebkcfdcmincfaaDoor
open Go V Go.ChangeShapes Go.WideShapes Go.ChangeAt Go.RowKit

abbrev TWd : TypeId := 44
section
variable {H : Type} {enc : TypeId × Value → H} {w : World} {spare : Nat → Bool} {held : Bool}
theorem open_wired {fuel : Nat} {cs : Array Value} {x : DataW H × List MemPlace} (h : DataW.trod enc Tryd.prog w 0 spare held fuel TWd cs.toList = some x) :
    ∃ (f : Fo) (m : BitVec 32), cs = #[.bool f.acfc, .bool f.pfc, vw m] := by
  obtain ⟨y0, y1, n, _, hlen, t0, t1⟩ := trod_struct2 Tryd.underlying44 h
  have hc : Tryd.prog.cellsOf TWd = 3 := by kernel_rfl
  have hi : Tryd.prog.cellsOf TFo = 2 := by kernel_rfl
  have hu : Tryd.prog.cellsOf 42 = 1 := by kernel_rfl
  rw [hc] at hlen
  obtain ⟨l⟩ := cs
  have hl3 : l.length = 3 := hlen
  rcases l with _ | ⟨a, _ | ⟨b, _ | ⟨c, _ | ⟨d, l⟩⟩⟩⟩ <;> first | (exfalso; simp at hl3; done) | skip
  · simp only [hi, hu, List.drop_zero, List.drop_succ_cons, List.take_succ_cons, List.take_zero] at t0 t1
    obtain ⟨z1, e1, _, w1⟩ := DataW.trod_int Tryd.underlying42 t1
    cases e1
    obtain ⟨f, hf⟩ := open_form (cs := #[a, b]) t0
    cases hf
    obtain ⟨m, rfl⟩ := word_of w1
    exact ⟨f, m, rfl⟩
end

theorem frameWires_ok (W : World) (hg : EtOk W) (p : Int) (_ : -9223372036854775808 ≤ p ∧ p ≤ 9223372036854775807) (A : Option Addr) (n c : Nat) (l : List UInt8) (hs : Sl W 1 A n (l.map vb)) (hnc : n ≤ c) (_ : c ≤ 9223372036854775807) (_ : ∀ a, A = some a → 0 < n → a.block < W.heap.size) (f : Fo) (m : BitVec 32) :
    VC Tryd.prog 7 [.int .i64 p, .slice A n c, .agg #[.bool f.acfc, .bool f.pfc, vw m]] W (fun v w' => v = .bool true ∧ Keep No W w') := by
  have hl : l.length = n := by simpa using hs.len
  refine VC.of tt_ok Tryd.func7 rfl (by decide +kernel) (Nat.le_of_ble_eq_true rfl) ?_; (conv => whnf)
  refine ⟨fun w1 hb kp => ?_⟩; have hb_lt := Blk.lt hb; have kp_sz := kp.size; (conv => whnf)
  refine (awake_ok w1 (hg.keepNo kp)).mono ?_
  rintro v w2 ⟨rfl, hk2⟩
  have kp := kp.keepNo hk2; have hb := hb.keepNo hk2
  (conv => whnf)
  refine VCmp.mk (fun h => ?_) (fun h => ?_) <;> (conv => whnf)
  · exact ⟨rfl, kp⟩
  refine VLoads.two (hb.cell 0) (hb.cell 1) ?_
  (conv => whnf)
  refine VLoad.by_ ((hb).cell 2) ?_; (conv => whnf)
  refine (wire_ok w2 p f m (hs.keepNo kp) (by omega)).mono ?_
  rintro v w3 ⟨⟨A3, c3, rfl, ho3⟩, hk3⟩
  have kp := kp.keepNo hk3; have hb := hb.keepNo hk3
  (conv => whnf)
  refine VLoads.two (hb.cell 0) (hb.cell 1) ?_
  (conv => whnf)
  refine VLoad.by_ ((hb).cell 2) ?_; (conv => whnf)
  refine (refWire_ok w3 p f m (hs.keepNo kp) (by omega)).mono ?_
  rintro v w4 ⟨⟨A4, c4, rfl, ho4⟩, hk4⟩
  have kp := kp.keepNo hk4; have hb := hb.keepNo hk4; have ho3 := ho3.keepNo hk4
  (conv => whnf)
  refine VLoads.two (hb.cell 0) (hb.cell 1) ?_
  (conv => whnf)
  refine (fRead_ok w4 f (hs.keepNo kp) (by omega) hnc (hg.keepNo kp)).mono ?_
  rintro v w5 ⟨⟨A5, c5, rfl, ho5⟩, hk5⟩
  have kp := kp.keepNo hk5; have hb := hb.keepNo hk5; have ho3 := ho3.keepNo hk5; have ho4 := ho4.keepNo hk5
  (conv => whnf)
  refine VLoads.two (hb.cell 0) (hb.cell 1) ?_
  (conv => whnf)
  refine (refRead_ok w5 f (hs.keepNo kp) (by omega) hnc).mono ?_
  rintro v w6 ⟨⟨A6, c6, rfl, ho6⟩, hk6⟩
  have kp := kp.keepNo hk6; have ho3 := ho3.keepNo hk6; have ho4 := ho4.keepNo hk6; have ho5 := ho5.keepNo hk6
  (conv => whnf)
  have hel := wireP_len p l f m
  have hdl := readW_len l f
  refine VCmp.mk (fun _ => ?_) (fun h => absurd rfl h); (conv => whnf)
  refine (same_ok w6 (Sl.ofOwn ho3) (Sl.ofOwn ho4) (by omega)).mono ?_
  rintro v w7 ⟨rfl, hk7⟩
  rw [decide_eq_true rfl]
  have kp := kp.keepNo hk7; have ho5 := ho5.keepNo hk7; have ho6 := ho6.keepNo hk7
  (conv => whnf)
  refine VCmp.mk (fun _ => ?_) (fun h => absurd rfl h); (conv => whnf)
  refine VCmp.mk (fun _ => ?_) (fun h => absurd rfl h); (conv => whnf)
  refine (same_ok w7 (Sl.ofOwn ho5) (Sl.ofOwn ho6) (by omega)).mono ?_
  rintro v w8 ⟨rfl, hk8⟩
  rw [decide_eq_true rfl]
  (conv => whnf)
  exact ⟨rfl, kp.trans hk8⟩

/-! ### The statement -/
theorem frameWires_own : ownKnob Tryd.prog.godebug = none := by kernel_rfl
theorem frameWires_laid : laidOutB Tryd.prog = true := by kernel_rfl
set_option maxRecDepth 100000 in
theorem frameWires_lifted (os : Os) (started : os.Started) (H : Type) (enc : TypeId × Value → H) :
    ReturnsInHanded {} Tryd.checked os 7 .any (fun w args => (Rows.frameWiresSpec.pre enc Tryd.prog Tryd.f7 Rows.frameWiresRow.domain false w args ∧ laidMetH Tryd.prog laidL w) ∧ sizedMet enc Tryd.prog Tryd.f7 (OpenSpec.ofChange Rows.frameWiresSpec) false w args) (Rows.frameWiresSpec.post enc Tryd.prog Tryd.f7 false true false false) := by
  refine returnsInHanded_of_change_and (C := Tryd.checked) (X := fun w _ => laidMetH Tryd.prog laidL w) (fun _ _ _ hh h => h.of_heap hh) frameWires_own started (by kernel_rfl) Tryd.func7
    (ChangeSpec.witness_at (enc := enc) (C := Tryd.checked) (os := os) (X := fun w _ => laidMetH Tryd.prog laidL w) false (laidWorld os) #[.int .i64 0, .slice none 0 0, .agg #[.bool false, .bool false, .int .u32 0]] 8 rfl (by kernel_rfl) (by kernel_rfl) (by kernel_rfl) (by kernel_rfl) (by kernel_rfl) (laidWorld_met os _)) ?_
  intro W base args ds gs before hval0 hW hcnd _ hL _
  have hg := handle_of_laid hL
  have hval : ∀ (j : Nat) t v, Tryd.f7.params[j]? = some t → args[j]? = some v → Value.okWide Tryd.prog W .any base t v := hval0
  have hW' := hW
  obtain ⟨p, q, hA0, hV, rfl, hfz, hnd⟩ := hW
  have hA : DataW.TrodAll enc Tryd.prog W 0 (fun _ => true) true Tryd.f7.params.toList args.toList ds p := hA0
  rw [Tryd.params7] at hA hval
  obtain ⟨v0, vs0, d0, ds0, p0, q0, hargs, rfl, rfl, h0, r0⟩ := trodAll_cons hA
  obtain ⟨v1, vs1, d1, ds1, p1, q1, rfl, rfl, rfl, h1, r1⟩ := trodAll_cons r0
  obtain ⟨v2, vs2, d2, ds2, p2, q2, rfl, rfl, rfl, h2, r2⟩ := trodAll_cons r1
  obtain ⟨rfl, rfl, rfl⟩ := trodAll_nil r2
  obtain rfl : args = #[v0, v1, v2] := by cases args; simp_all
  obtain ⟨rfl, rfl⟩ := trodVars_none hV
  have k0 := h0
  have lt0 : ∀ x ∈ p0, x.block < W.heap.size := by obtain ⟨m, hm⟩ := k0; exact DataW.trod_lt m _ _ _ hm
  obtain ⟨a0, rfl, rfl, rfl, w0⟩ := open_int Tryd.underlying3 (hval 0 3 v0 rfl rfl) h0
  have k1 := h1
  have lt1 : ∀ x ∈ p1, x.block < W.heap.size := by obtain ⟨m, hm⟩ := k1; exact DataW.trod_lt m _ _ _ hm
  obtain ⟨aa1, la1, ca1, rfl⟩ := okWide_slice Tryd.underlying25 (hval 1 25 v1 rfl rfl)
  obtain ⟨fuel1, hf1⟩ := h1
  obtain ⟨A1, n1, c1, l1, e1, s1, ln1, nc1, cc1, b1⟩ := open_bytes Tryd.underlying25 Tryd.underlying5 (by kernel_rfl) hf1
  cases e1
  have k2 := h2
  have lt2 : ∀ x ∈ p2, x.block < W.heap.size := by obtain ⟨m, hm⟩ := k2; exact DataW.trod_lt m _ _ _ hm
  obtain ⟨cs2, rfl, _⟩ := okWide_struct Tryd.underlying44 (hval 2 44 v2 rfl rfl)
  obtain ⟨fuel2, hf2⟩ := h2
  obtain ⟨fo2, m2, e2⟩ := open_wired hf2
  subst e2
  clear hA0 hval0
  refine (VC.law (frameWires_ok W hg a0 (int_of w0) aa1 la1 ca1 l1 s1 nc1 cc1 b1 fo2 m2)).mono fun e W' ⟨he, bel⟩ => ?_
  subst he
  exact ⟨_, rfl, _, _, _, [], _, [], hW', trodAll_mk1 (shut_bool Tryd.underlying4 _), (trodAll_cons_mk (Below.trod frameWires_laid (by kernel_rfl) (of_decide_eq_true (by kernel_rfl)) k0 bel lt0) (trodAll_cons_mk (Below.trod frameWires_laid (by kernel_rfl) (of_decide_eq_true (by kernel_rfl)) k1 bel lt1) (trodAll_cons_mk (Below.trod frameWires_laid (by kernel_rfl) (of_decide_eq_true (by kernel_rfl)) k2 bel lt2) trodAll_mk0))), rfl, bel.frame _, fun h => by cases h⟩

theorem frameWires_over : Rows.frameWiresRow.holds Tryd.pinned (OpenSpec.ofChange Rows.frameWiresSpec) :=
  OpenClaim.holds_of_wide 7 Tryd.f7 rfl rfl rfl rfl rfl rfl rfl ⟨rfl, rfl, rfl, rfl, rfl⟩ rfl rfl rfl rfl rfl (by kernel_rfl) Tryd.func7 (by kernel_rfl)
    (of_decide_eq_true (by kernel_rfl)) (by unfold Func.isWrapper; first | (rw [if_pos (by decide +kernel)]; kernel_rfl) | (rw [if_neg (by decide +kernel)]; exact ⟨rfl, rfl⟩))
    (fun os started H enc _ => frameWires_lifted os started H enc)


theorem frameWires_proved : Rows.FrameWiresCardSaid :=
  Claim7.holds_tied_plain_at .later [] [.handle] true (true, "febc034ccf11541b4f349216a09937fe34c75095d19bc848434b020eb5eb71bc") true
    frameWires_over (fun _ h => by cases h) (by kernel_rfl) (fun _ h => by cases h) frameWires_row_tie rfl ⟨rfl, rfl⟩ (by kernel_rfl) rfl
    (fun f fn hf hfn => by
      obtain rfl : f = 7 := Option.some.inj ((show Tryd.prog.funcNamed "fairlead/fairleadlaw4.FrameWires" = some 7 by kernel_rfl).symm.trans hf) |>.symm
      obtain rfl : fn = Tryd.f7 := (Option.some.inj (Tryd.func7.symm.trans hfn)).symm
      exact ⟨by kernel_rfl, fun j t ht => by
        rw [Tryd.params7] at ht
        exact (match j, ht with
      | 0, ht => by obtain rfl : 3 = t := (by simpa using ht); kernel_rfl
      | 1, ht => by obtain rfl : 25 = t := (by simpa using ht); kernel_rfl
      | 2, ht => by obtain rfl : 44 = t := (by simpa using ht); kernel_rfl
      | j + 3, ht => by simp at ht)⟩)
    (by kernel_rfl)
#print axioms frameWires_proved
end Go.Proofs.YtebkcfdcmincfaaDoor
