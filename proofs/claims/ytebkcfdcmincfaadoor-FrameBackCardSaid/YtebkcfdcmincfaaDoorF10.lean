/-
  What is left out makes a frame just so much shorter, and is refused by who does not take it so; of LCP nothing is. For every input.
-/
import Derived.Test.YtebkcfdcmincfaaDoorF9
namespace Go.Proofs.YtebkcfdcmincfaaDoor
open Go V Go.ChangeShapes Go.WideShapes Go.ChangeAt Go.RowKit

/-- A frame of a protocol that may be. -/
theorem encodeN (w : World) {p : Int} {A : Option Addr} {n c : Nat} {l : List UInt8} (f : Fo) (N : Nat) (hm : mayB p = true) (hs : Sl w 1 A n (l.map vb)) (hn : n ≤ 1516) (hN : (headP p f ++ l).length = N) :
    VC Tryd.prog 10 [.int .i64 p, .slice A n c, f.v] w (fun v w' => ∃ A' c', v = .tuple #[.slice A' N c', .int .i64 0] ∧ Own w' w.heap.size T8 1 A' N c' ((headP p f ++ l).map vb) ∧ Keep No w w') := by
  have hl : l.length = n := by simpa using hs.len
  refine (encode_ok w p f hs (by omega)).mono ?_
  rintro v w' ⟨⟨A', c', rfl, ho⟩, hk⟩
  rw [encF_ok hm (by omega)] at *
  subst hN
  exact ⟨A', c', rfl, ho, hk⟩
theorem decodeN (w : World) {A : Option Addr} {n c : Nat} {l : List UInt8} (f : Fo) (q : Int × List UInt8 × Int) (N : Nat) (hq : decF l f = q) (hN : q.2.1.length = N) (hs : Sl w 1 A n (l.map vb)) (hn : n ≤ 1000000) (hnc : n ≤ c) (hg : EtOk w) :
    VC Tryd.prog 11 [.slice A n c, f.v] w (fun v w' => ∃ A' c', v = .tuple #[.int .i64 q.1, .slice A' N c', .int .i64 q.2.2] ∧ Own w' w.heap.size T8 1 A' N c' (q.2.1.map vb) ∧ Keep No w w') := by
  refine (decode_ok w f hs hn hnc hg).mono ?_
  rintro v w' ⟨⟨A', c', rfl, ho⟩, hk⟩
  rw [hq] at *
  subst hN
  exact ⟨A', c', rfl, ho, hk⟩

theorem frameForms_ok (W : World) (hg : EtOk W) (p : Int) (_ : -9223372036854775808 ≤ p ∧ p ≤ 9223372036854775807) (A : Option Addr) (n c : Nat) (l : List UInt8) (hs : Sl W 1 A n (l.map vb)) (hnc : n ≤ c) (_ : c ≤ 9223372036854775807) (_ : ∀ a, A = some a → 0 < n → a.block < W.heap.size) :
    VC Tryd.prog 5 [.int .i64 p, .slice A n c] W (fun v w' => v = .bool true ∧ Keep No W w') := by
  have hl : l.length = n := by simpa using hs.len
  refine VC.of tt_ok Tryd.func5 rfl (by decide +kernel) (Nat.le_of_ble_eq_true rfl) ?_; (conv => whnf)
  refine (awake_ok W hg).mono ?_
  rintro v w1 ⟨rfl, kp⟩
  (conv => whnf)
  refine VCmp.mk (fun h => ?_) (fun h => ?_) <;> (conv => whnf)
  · exact ⟨rfl, kp⟩
  refine (may_ok w1 p).mono ?_
  rintro v w' ⟨rfl, rfl⟩
  cases hm : mayB p with
  | false =>
    (conv => whnf)
    exact ⟨rfl, kp⟩
  | true =>
  (conv => whnf)
  by_cases hp0 : p = 49185
  · skip
    refine VFill.by_ rfl ?_; (conv => whnf)
    refine (encodeN w1 ⟨false, false⟩ (n + 4) hm (hs.keepNo kp) (by omega) (by rw [headP_lcp hp0]; simp; omega)).mono ?_
    rintro v w2 ⟨A2, c2, rfl, ho2, hk2⟩
    have kp := kp.keepNo hk2
    (conv => whnf)
    refine VFill.by_ rfl ?_; (conv => whnf)
    refine (encodeN w2 ⟨true, false⟩ (n + 4) hm (hs.keepNo kp) (by omega) (by rw [headP_lcp hp0]; simp; omega)).mono ?_
    rintro v w3 ⟨A3, c3, rfl, ho3, hk3⟩
    have kp := kp.keepNo hk3; have ho2 := ho2.keepNo hk3
    (conv => whnf)
    refine VFill.by_ rfl ?_; (conv => whnf)
    refine (encodeN w3 ⟨false, true⟩ (n + 4) hm (hs.keepNo kp) (by omega) (by rw [headP_lcp hp0]; simp; omega)).mono ?_
    rintro v w4 ⟨A4, c4, rfl, ho4, hk4⟩
    have kp := kp.keepNo hk4; have ho2 := ho2.keepNo hk4; have ho3 := ho3.keepNo hk4
    (conv => whnf)
    refine VFill.by_ rfl ?_; (conv => whnf)
    refine (encodeN w4 ⟨true, true⟩ (n + 4) hm (hs.keepNo kp) (by omega) (by rw [headP_lcp hp0]; simp; omega)).mono ?_
    rintro v w5 ⟨A5, c5, rfl, ho5, hk5⟩
    have kp := kp.keepNo hk5; have ho2 := ho2.keepNo hk5; have ho3 := ho3.keepNo hk5; have ho4 := ho4.keepNo hk5
    (conv => whnf)
    refine VCmp.mk (fun h => absurd rfl h) (fun _ => ?_)
    (conv => whnf)
    refine VCmp.mk (fun h => absurd rfl h) (fun _ => ?_)
    (conv => whnf)
    refine VCmp.mk (fun h => absurd rfl h) (fun _ => ?_)
    (conv => whnf)
    refine VCmp.mk (fun h => absurd rfl h) (fun _ => ?_)
    (conv => whnf)
    refine VRes.i64 (by omega) ?_; (conv => whnf)
    refine VCmp.mk (fun h => absurd (by omega) h) (fun _ => ?_)
    (conv => whnf)
    refine VCmp.mk (fun _ => ?_) (fun h => absurd hp0 h)
    (conv => whnf)
    have e1 := headP_lcp (f := ⟨false, false⟩) hp0
    have e2 := headP_lcp (f := ⟨true, false⟩) hp0
    have e3 := headP_lcp (f := ⟨false, true⟩) hp0
    have e4 := headP_lcp (f := ⟨true, true⟩) hp0
    rw [e1] at ho2
    rw [e2] at ho3
    rw [e3] at ho4
    rw [e4] at ho5
    refine (same_ok _ (Sl.ofOwn ho2) (Sl.ofOwn ho3) (by omega)).mono ?_
    rintro v x0 ⟨rfl, hx0⟩
    rw [decide_eq_true rfl]
    have kp := kp.keepNo hx0; have ho2 := ho2.keepNo hx0; have ho3 := ho3.keepNo hx0; have ho4 := ho4.keepNo hx0; have ho5 := ho5.keepNo hx0
    (conv => whnf)
    refine (same_ok _ (Sl.ofOwn ho2) (Sl.ofOwn ho4) (by omega)).mono ?_
    rintro v x1 ⟨rfl, hx1⟩
    rw [decide_eq_true rfl]
    have kp := kp.keepNo hx1; have ho2 := ho2.keepNo hx1; have ho3 := ho3.keepNo hx1; have ho4 := ho4.keepNo hx1; have ho5 := ho5.keepNo hx1
    (conv => whnf)
    refine (same_ok _ (Sl.ofOwn ho2) (Sl.ofOwn ho5) (by omega)).mono ?_
    rintro v x2 ⟨rfl, hx2⟩
    rw [decide_eq_true rfl]
    have kp := kp.keepNo hx2; have ho2 := ho2.keepNo hx2; have ho3 := ho3.keepNo hx2; have ho4 := ho4.keepNo hx2; have ho5 := ho5.keepNo hx2
    (conv => whnf)
    exact ⟨rfl, kp⟩
  by_cases h255 : p ≤ 255
  · skip
    refine VFill.by_ rfl ?_; (conv => whnf)
    refine (encodeN w1 ⟨false, false⟩ (n + 4) hm (hs.keepNo kp) (by omega) (by rw [headP_w hp0 (.inl rfl)]; simp; omega)).mono ?_
    rintro v w2 ⟨A2, c2, rfl, ho2, hk2⟩
    have kp := kp.keepNo hk2
    (conv => whnf)
    refine VFill.by_ rfl ?_; (conv => whnf)
    refine (encodeN w2 ⟨true, false⟩ (n + 2) hm (hs.keepNo kp) (by omega) (by rw [headP_w hp0 (.inl rfl)]; simp; omega)).mono ?_
    rintro v w3 ⟨A3, c3, rfl, ho3, hk3⟩
    have kp := kp.keepNo hk3; have ho2 := ho2.keepNo hk3
    (conv => whnf)
    refine VFill.by_ rfl ?_; (conv => whnf)
    refine (encodeN w3 ⟨false, true⟩ (n + 3) hm (hs.keepNo kp) (by omega) (by rw [headP_n hp0 h255]; simp; omega)).mono ?_
    rintro v w4 ⟨A4, c4, rfl, ho4, hk4⟩
    have kp := kp.keepNo hk4; have ho2 := ho2.keepNo hk4; have ho3 := ho3.keepNo hk4
    (conv => whnf)
    refine VFill.by_ rfl ?_; (conv => whnf)
    refine (encodeN w4 ⟨true, true⟩ (n + 1) hm (hs.keepNo kp) (by omega) (by rw [headP_n hp0 h255]; simp; omega)).mono ?_
    rintro v w5 ⟨A5, c5, rfl, ho5, hk5⟩
    have kp := kp.keepNo hk5; have ho2 := ho2.keepNo hk5; have ho3 := ho3.keepNo hk5; have ho4 := ho4.keepNo hk5
    (conv => whnf)
    refine VCmp.mk (fun h => absurd rfl h) (fun _ => ?_)
    (conv => whnf)
    refine VCmp.mk (fun h => absurd rfl h) (fun _ => ?_)
    (conv => whnf)
    refine VCmp.mk (fun h => absurd rfl h) (fun _ => ?_)
    (conv => whnf)
    refine VCmp.mk (fun h => absurd rfl h) (fun _ => ?_)
    (conv => whnf)
    refine VRes.i64 (by omega) ?_; (conv => whnf)
    refine VCmp.mk (fun h => absurd (by omega) h) (fun _ => ?_)
    (conv => whnf)
    refine VCmp.mk (fun h => absurd h hp0) (fun _ => ?_)
    (conv => whnf)
    refine VCmp.mk (fun h => ?_) (fun h => ?_) <;> first | (exfalso; omega) | (conv => whnf)
    refine VRes.i64 (by omega) ?_; (conv => whnf)
    refine VCmp.mk (fun h => absurd (by omega) h) (fun _ => ?_)
    (conv => whnf)
    refine VRes.i64 (by omega) ?_; (conv => whnf)
    refine VCmp.mk (fun h => absurd (by omega) h) (fun _ => ?_)
    (conv => whnf)
    refine VRes.i64 (by omega) ?_; (conv => whnf)
    refine VRes.i64 (by omega) ?_; (conv => whnf)
    refine VCmp.mk (fun h => absurd (by omega) h) (fun _ => ?_)
    (conv => whnf)
    refine VFill.by_ rfl ?_; (conv => whnf)
    refine (decodeN _ ⟨false, true⟩ (0, [], 4) 0 (by
      rw [headP_w hp0 (.inl rfl)]
      show decF (UInt8.ofNat (p.toNat / 2 ^ 8) :: UInt8.ofNat p.toNat :: l) ⟨false, true⟩ = _
      rw [decF_off _ _ _ (hi_ne hm)]
      rfl) rfl (Sl.ofOwn ho3) (by omega) ho3.le (hg.keepNo kp)).mono ?_
    rintro v w6 ⟨A6, c6, rfl, ho6, hk6⟩
    have kp := kp.keepNo hk6; have ho4 := ho4.keepNo hk6
    (conv => whnf)
    refine VFill.by_ rfl ?_; (conv => whnf)
    refine (decodeN _ ⟨true, false⟩ (0, [], 4) 0 (by
      rw [headP_n hp0 h255]
      show decF (255 :: 3 :: UInt8.ofNat p.toNat :: l) ⟨true, false⟩ = _
      rw [decF_on, field_short hm h255]
      rfl) rfl (Sl.ofOwn ho4) (by omega) ho4.le (hg.keepNo kp)).mono ?_
    rintro v w7 ⟨A7, c7, rfl, ho7, hk7⟩
    (conv => whnf)
    refine VCmp.mk (fun _ => ?_) (fun h => absurd rfl h); (conv => whnf)
    refine VCmp.mk (fun h => absurd h (by decide)) (fun _ => ?_)
    (conv => whnf)
    refine VCmp.mk (fun _ => ?_) (fun h => absurd rfl h); (conv => whnf)
    refine VCmp.mk (fun _ => ?_) (fun h => absurd rfl h); (conv => whnf)
    exact ⟨rfl, kp.trans hk7⟩
  · skip
    refine VFill.by_ rfl ?_; (conv => whnf)
    refine (encodeN w1 ⟨false, false⟩ (n + 4) hm (hs.keepNo kp) (by omega) (by rw [headP_w hp0 (.inl rfl)]; simp; omega)).mono ?_
    rintro v w2 ⟨A2, c2, rfl, ho2, hk2⟩
    have kp := kp.keepNo hk2
    (conv => whnf)
    refine VFill.by_ rfl ?_; (conv => whnf)
    refine (encodeN w2 ⟨true, false⟩ (n + 2) hm (hs.keepNo kp) (by omega) (by rw [headP_w hp0 (.inl rfl)]; simp; omega)).mono ?_
    rintro v w3 ⟨A3, c3, rfl, ho3, hk3⟩
    have kp := kp.keepNo hk3; have ho2 := ho2.keepNo hk3
    (conv => whnf)
    refine VFill.by_ rfl ?_; (conv => whnf)
    refine (encodeN w3 ⟨false, true⟩ (n + 4) hm (hs.keepNo kp) (by omega) (by rw [headP_w hp0 (.inr (by omega))]; simp; omega)).mono ?_
    rintro v w4 ⟨A4, c4, rfl, ho4, hk4⟩
    have kp := kp.keepNo hk4; have ho2 := ho2.keepNo hk4; have ho3 := ho3.keepNo hk4
    (conv => whnf)
    refine VFill.by_ rfl ?_; (conv => whnf)
    refine (encodeN w4 ⟨true, true⟩ (n + 2) hm (hs.keepNo kp) (by omega) (by rw [headP_w hp0 (.inr (by omega))]; simp; omega)).mono ?_
    rintro v w5 ⟨A5, c5, rfl, ho5, hk5⟩
    have kp := kp.keepNo hk5; have ho2 := ho2.keepNo hk5; have ho3 := ho3.keepNo hk5; have ho4 := ho4.keepNo hk5
    (conv => whnf)
    refine VCmp.mk (fun h => absurd rfl h) (fun _ => ?_)
    (conv => whnf)
    refine VCmp.mk (fun h => absurd rfl h) (fun _ => ?_)
    (conv => whnf)
    refine VCmp.mk (fun h => absurd rfl h) (fun _ => ?_)
    (conv => whnf)
    refine VCmp.mk (fun h => absurd rfl h) (fun _ => ?_)
    (conv => whnf)
    refine VRes.i64 (by omega) ?_; (conv => whnf)
    refine VCmp.mk (fun h => absurd (by omega) h) (fun _ => ?_)
    (conv => whnf)
    refine VCmp.mk (fun h => absurd h hp0) (fun _ => ?_)
    (conv => whnf)
    refine VCmp.mk (fun h => ?_) (fun h => ?_) <;> first | (exfalso; omega) | (conv => whnf)
    refine VRes.i64 (by omega) ?_; (conv => whnf)
    refine VCmp.mk (fun h => absurd (by omega) h) (fun _ => ?_)
    (conv => whnf)
    refine VRes.i64 (by omega) ?_; (conv => whnf)
    refine VCmp.mk (fun h => absurd (by omega) h) (fun _ => ?_)
    (conv => whnf)
    refine VRes.i64 (by omega) ?_; (conv => whnf)
    refine VRes.i64 (by omega) ?_; (conv => whnf)
    refine VCmp.mk (fun h => absurd (by omega) h) (fun _ => ?_)
    (conv => whnf)
    refine VFill.by_ rfl ?_; (conv => whnf)
    refine (decodeN _ ⟨false, true⟩ (0, [], 4) 0 (by
      rw [headP_w hp0 (.inl rfl)]
      show decF (UInt8.ofNat (p.toNat / 2 ^ 8) :: UInt8.ofNat p.toNat :: l) ⟨false, true⟩ = _
      rw [decF_off _ _ _ (hi_ne hm)]
      rfl) rfl (Sl.ofOwn ho3) (by omega) ho3.le (hg.keepNo kp)).mono ?_
    rintro v w6 ⟨A6, c6, rfl, ho6, hk6⟩
    have kp := kp.keepNo hk6; have ho4 := ho4.keepNo hk6
    (conv => whnf)
    refine VFill.by_ rfl ?_; (conv => whnf)
    refine (decodeN _ ⟨true, false⟩ (p, l, 0) n (by
      rw [headP_w hp0 (.inr (by omega))]
      show decF (255 :: 3 :: UInt8.ofNat (p.toNat / 2 ^ 8) :: UInt8.ofNat p.toNat :: l) ⟨true, false⟩ = _
      rw [decF_on, field_wide hm, fitP_ok (by omega)]) hl (Sl.ofOwn ho4) (by omega) ho4.le (hg.keepNo kp)).mono ?_
    rintro v w7 ⟨A7, c7, rfl, ho7, hk7⟩
    (conv => whnf)
    refine VCmp.mk (fun _ => ?_) (fun h => absurd rfl h); (conv => whnf)
    refine VCmp.mk (fun _ => ?_) (fun h => absurd rfl h); (conv => whnf)
    refine VCmp.mk (fun _ => ?_) (fun h => absurd rfl h); (conv => whnf)
    exact ⟨rfl, kp.trans hk7⟩

/-! ### The statement -/
theorem frameForms_own : ownKnob Tryd.prog.godebug = none := by kernel_rfl
theorem frameForms_laid : laidOutB Tryd.prog = true := by kernel_rfl
set_option maxRecDepth 100000 in
theorem frameForms_lifted (os : Os) (started : os.Started) (H : Type) (enc : TypeId × Value → H) :
    ReturnsInHanded {} Tryd.checked os 5 .any (fun w args => (Rows.frameFormsSpec.pre enc Tryd.prog Tryd.f5 Rows.frameFormsRow.domain false w args ∧ laidMetH Tryd.prog laidL w) ∧ sizedMet enc Tryd.prog Tryd.f5 (OpenSpec.ofChange Rows.frameFormsSpec) false w args) (Rows.frameFormsSpec.post enc Tryd.prog Tryd.f5 false true false false) := by
  refine returnsInHanded_of_change_and (C := Tryd.checked) (X := fun w _ => laidMetH Tryd.prog laidL w) (fun _ _ _ hh h => h.of_heap hh) frameForms_own started (by kernel_rfl) Tryd.func5
    (ChangeSpec.witness_at (enc := enc) (C := Tryd.checked) (os := os) (X := fun w _ => laidMetH Tryd.prog laidL w) false (laidWorld os) #[.int .i64 0, .slice none 0 0] 8 rfl (by kernel_rfl) (by kernel_rfl) (by kernel_rfl) (by kernel_rfl) (by kernel_rfl) (laidWorld_met os _)) ?_
  intro W base args ds gs before hval0 hW hcnd _ hL _
  have hg := handle_of_laid hL
  have hval : ∀ (j : Nat) t v, Tryd.f5.params[j]? = some t → args[j]? = some v → Value.okWide Tryd.prog W .any base t v := hval0
  have hW' := hW
  obtain ⟨p, q, hA0, hV, rfl, hfz, hnd⟩ := hW
  have hA : DataW.TrodAll enc Tryd.prog W 0 (fun _ => true) true Tryd.f5.params.toList args.toList ds p := hA0
  rw [Tryd.params5] at hA hval
  obtain ⟨v0, vs0, d0, ds0, p0, q0, hargs, rfl, rfl, h0, r0⟩ := trodAll_cons hA
  obtain ⟨v1, vs1, d1, ds1, p1, q1, rfl, rfl, rfl, h1, r1⟩ := trodAll_cons r0
  obtain ⟨rfl, rfl, rfl⟩ := trodAll_nil r1
  obtain rfl : args = #[v0, v1] := by cases args; simp_all
  obtain ⟨rfl, rfl⟩ := trodVars_none hV
  have k0 := h0
  have lt0 : ∀ x ∈ p0, x.block < W.heap.size := by obtain ⟨m, hm⟩ := k0; exact DataW.trod_lt m _ _ _ hm
  obtain ⟨a0, rfl, rfl, rfl, w0⟩ := open_int Tryd.underlying3 (hval 0 3 v0 rfl rfl) h0
  have k1 := h1
  have lt1 : ∀ x ∈ p1, x.block < W.heap.size := by obtain ⟨m, hm⟩ := k1; exact DataW.trod_lt m _ _ _ hm
  obtain ⟨aa1, la1, ca1, rfl⟩ := okWide_slice Tryd.underlying25 (hval 1 25 v1 rfl rfl)
  obtain ⟨fuel1, hf1⟩ := h1
  obtain ⟨A1, n1, c1, l1, e1, s1, ln1, nc1, cc1, b1⟩ := open_bytes Tryd.underlying25 Tryd.underlying5 (by kernel_rfl) hf1
  cases e1
  clear hA0 hval0
  refine (VC.law (frameForms_ok W hg a0 (int_of w0) aa1 la1 ca1 l1 s1 nc1 cc1 b1)).mono fun e W' ⟨he, bel⟩ => ?_
  subst he
  exact ⟨_, rfl, _, _, _, [], _, [], hW', trodAll_mk1 (shut_bool Tryd.underlying4 _), (trodAll_cons_mk (Below.trod frameForms_laid (by kernel_rfl) (of_decide_eq_true (by kernel_rfl)) k0 bel lt0) (trodAll_cons_mk (Below.trod frameForms_laid (by kernel_rfl) (of_decide_eq_true (by kernel_rfl)) k1 bel lt1) trodAll_mk0)), rfl, bel.frame _, fun h => by cases h⟩

theorem frameForms_over : Rows.frameFormsRow.holds Tryd.pinned (OpenSpec.ofChange Rows.frameFormsSpec) :=
  OpenClaim.holds_of_wide 5 Tryd.f5 rfl rfl rfl rfl rfl rfl rfl ⟨rfl, rfl, rfl, rfl, rfl⟩ rfl rfl rfl rfl rfl (by kernel_rfl) Tryd.func5 (by kernel_rfl)
    (of_decide_eq_true (by kernel_rfl)) (by unfold Func.isWrapper; first | (rw [if_pos (by decide +kernel)]; kernel_rfl) | (rw [if_neg (by decide +kernel)]; exact ⟨rfl, rfl⟩))
    (fun os started H enc _ => frameForms_lifted os started H enc)


theorem frameForms_proved : Rows.FrameFormsCardSaid :=
  Claim7.holds_tied_plain_at .later [] [.handle] true (true, "febc034ccf11541b4f349216a09937fe34c75095d19bc848434b020eb5eb71bc") true
    frameForms_over (fun _ h => by cases h) (by kernel_rfl) (fun _ h => by cases h) frameForms_row_tie rfl ⟨rfl, rfl⟩ (by kernel_rfl) rfl
    (fun f fn hf hfn => by
      obtain rfl : f = 5 := Option.some.inj ((show Tryd.prog.funcNamed "fairlead/fairleadlaw4.FrameForms" = some 5 by kernel_rfl).symm.trans hf) |>.symm
      obtain rfl : fn = Tryd.f5 := (Option.some.inj (Tryd.func5.symm.trans hfn)).symm
      exact ⟨by kernel_rfl, fun j t ht => by
        rw [Tryd.params5] at ht
        exact (match j, ht with
      | 0, ht => by obtain rfl : 3 = t := (by simpa using ht); kernel_rfl
      | 1, ht => by obtain rfl : 25 = t := (by simpa using ht); kernel_rfl
      | j + 2, ht => by simp at ht)⟩)
    (by kernel_rfl)
#print axioms frameForms_proved
end Go.Proofs.YtebkcfdcmincfaaDoor
