/-
  Of all numbers just those are protocols that may be; each that may be goes, in each form, and comes back. For every input.
-/
import Derived.Test.YtebkcfdcmincfaaDoorF10
namespace Go.Proofs.YtebkcfdcmincfaaDoor
open Go V Go.ChangeShapes Go.WideShapes Go.ChangeAt Go.RowKit

theorem half_of {z : Int} (h : (Lit.int .u16 z).wf = true) : ∃ x : BitVec 16, z = (x.toNat : Int) := by
  have hb : 0 ≤ z ∧ z ≤ 65535 := by
    have := h
    simp [Lit.wf, IntKind.min, IntKind.max, IntKind.signed, IntKind.bits] at this
    omega
  refine ⟨BitVec.ofNat 16 z.toNat, ?_⟩
  rw [BitVec.toNat_ofNat, Nat.mod_eq_of_lt (by show z.toNat < 2 ^ 16; omega)]
  omega

def forms4 : List Value := [.bool false, .bool false, .bool true, .bool false, .bool false, .bool true, .bool true, .bool true]
theorem forms4_at (k : Nat) (hk : k < 4) : ∃ f : Fo, forms4[k * 2]? = some (.bool f.acfc) ∧ forms4[k * 2 + 1]? = some (.bool f.pfc) := by
  match k, hk with
  | 0, _ => exact ⟨⟨false, false⟩, rfl, rfl⟩
  | 1, _ => exact ⟨⟨true, false⟩, rfl, rfl⟩
  | 2, _ => exact ⟨⟨false, true⟩, rfl, rfl⟩
  | 3, _ => exact ⟨⟨true, true⟩, rfl, rfl⟩

theorem frameAll_ok (W : World) (hg : EtOk W) (x : BitVec 16) (A : Option Addr) (n c : Nat) (l : List UInt8) (hs : Sl W 1 A n (l.map vb)) (hnc : n ≤ c) (_ : c ≤ 9223372036854775807) (_ : ∀ a, A = some a → 0 < n → a.block < W.heap.size) :
    VC Tryd.prog 6 [vh x, .slice A n c] W (fun v w' => v = .bool true ∧ Keep No W w') := by
  have hl : l.length = n := by simpa using hs.len
  have hx := x.isLt
  refine VC.of tt_ok Tryd.func6 rfl (by decide +kernel) (Nat.le_of_ble_eq_true rfl) ?_; (conv => whnf)
  refine (awake_ok W hg).mono ?_
  rintro v w1 ⟨rfl, kp⟩
  (conv => whnf)
  refine VCmp.mk (fun h => ?_) (fun h => ?_) <;> (conv => whnf)
  · exact ⟨rfl, kp⟩
  refine VFill.by_ rfl ?_; (conv => whnf)
  refine VFill.by_ rfl ?_; (conv => whnf)
  refine VFill.by_ rfl ?_; (conv => whnf)
  refine VFill.by_ rfl ?_; (conv => whnf)
  refine VFill.by_ rfl ?_; (conv => whnf)
  refine ⟨fun w2 hb hk2 => ?_⟩; have hb_lt := Blk.lt hb; have hk2_sz := hk2.size; (conv => whnf)
  have kp := kp.keepNo hk2
  change Blk w2 w1.heap.size TFo forms4 at hb
  refine VLoop.by_ tt_ok (S := Nat) (fun i => [(0, vh x), (1, .slice A n c), (5, .slice (some ⟨w1.heap.size, 0, none⟩) 4 4), (6, .int .i64 i)]) (fun i w' => i ≤ 300 ∧ Blk w' w1.heap.size TFo forms4 ∧ Keep No W w') (fun i => 300 - i) 0
    ⟨rfl, rfl, rfl, rfl, trivial⟩ ⟨by omega, hb, kp⟩ ?_
  rintro i w' ⟨hi, hb, kp⟩
  (conv => whnf)
  refine VCmp.mk (fun h => ?_) (fun h => ?_) <;> (conv => whnf)
  rotate_left 1
  · exact ⟨rfl, kp⟩
  refine VRes.i64 (by omega) ?_; (conv => whnf)
  refine VRes.i64 (by omega) ?_; (conv => whnf)
  refine VRes.i64 (by omega) ?_; (conv => whnf)
  obtain ⟨p, hp⟩ : ∃ p : Int, p = (x.toNat : Int) + i - 20 := ⟨_, rfl⟩
  rw [← hp]
  refine (may_ok w' p).mono ?_
  rintro v w'' ⟨rfl, rfl⟩
  (conv => whnf)
  refine (refMay_ok w' p).mono ?_
  rintro v w'' ⟨rfl, rfl⟩
  (conv => whnf)
  rw [show (!(mayB p == mayB p)) = false from by simp]
  (conv => whnf)
  refine VLoop.by_ tt_ok (S := Nat) (fun k => [(0, vh x), (1, .slice A n c), (5, .slice (some ⟨w1.heap.size, 0, none⟩) 4 4), (6, .int .i64 i), (7, .int .i64 p), (8, .int .i64 k)]) (fun k w' => k ≤ 4 ∧ Blk w' w1.heap.size TFo forms4 ∧ Keep No W w') (fun k => 4 - k) 0
    ⟨rfl, rfl, rfl, rfl, rfl, rfl, trivial⟩ ⟨by omega, hb, kp⟩ ?_
  rintro k w' ⟨hk, hb, kp⟩
  (conv => whnf)
  refine VCmp.mk (fun h4 => ?_) (fun h4 => ?_) <;> (conv => whnf)
  rotate_left 1
  · refine VRes.i64 (by omega) ?_; (conv => whnf)
    exact ⟨i + 1, ⟨rfl, rfl, rfl, rfl, trivial⟩, ⟨by omega, hb, kp⟩, by omega⟩
  obtain ⟨f, f0, f1⟩ := forms4_at k (by omega)
  refine VIdx.mul k rfl (by omega) rfl ?_
  (conv => whnf)
  refine VLoads.two ((hb.cell _).trans (by rw [Nat.zero_add]; exact f0)) ((hb.cell _).trans (by rw [Nat.zero_add]; exact f1)) ?_
  (conv => whnf)
  cases hm : mayB p with
  | false =>
    refine (encode_ok w' p f (hs.keepNo kp) (by omega)).mono ?_
    rintro v w3 ⟨⟨A3, c3, rfl, ho3⟩, hk3⟩
    rw [show encF p l f = ([], 1) from by unfold encF; rw [hm]; rfl] at *
    have kp := kp.keepNo hk3; have hb := hb.keepNo hk3
    (conv => whnf)
    refine VCmp.mk (fun h => absurd h (by decide)) (fun _ => ?_)
    (conv => whnf)
    refine (refMay_ok w3 p).mono ?_
    rintro v w'' ⟨rfl, rfl⟩
    rw [hm]
    (conv => whnf)
    refine VCmp.mk (fun _ => ?_) (fun h => absurd (by decide) h)
    (conv => whnf)
    refine VRes.i64 (by omega) ?_; (conv => whnf)
    exact ⟨k + 1, ⟨rfl, rfl, rfl, rfl, rfl, rfl, trivial⟩, ⟨by omega, hb, kp⟩, by omega⟩
  | true =>
    refine (encodeN w' f (headP p f ++ l).length hm (hs.keepNo kp) (by omega) rfl).mono ?_
    rintro v w3 ⟨A3, c3, rfl, ho3, hk3⟩
    have kp := kp.keepNo hk3; have hb := hb.keepNo hk3
    have hhl := headP_len p f
    have hlen : (headP p f ++ l).length ≤ 60 := by rw [List.length_append]; omega
    (conv => whnf)
    refine VCmp.mk (fun _ => ?_) (fun h => absurd rfl h)
    (conv => whnf)
    refine (refMay_ok w3 p).mono ?_
    rintro v w'' ⟨rfl, rfl⟩
    rw [hm]
    (conv => whnf)
    refine VCmp.mk (fun h => absurd rfl h) (fun _ => ?_)
    (conv => whnf)
    refine VIdx.mul k rfl (by omega) rfl ?_
    (conv => whnf)
    refine VLoads.two ((hb.cell _).trans (by rw [Nat.zero_add]; exact f0)) ((hb.cell _).trans (by rw [Nat.zero_add]; exact f1)) ?_
    (conv => whnf)
    refine (decodeN w3 f (p, l, 0) n (decF_head hm l (by omega) f f id id) hl (Sl.ofOwn ho3) (by omega) ho3.le (hg.keepNo kp)).mono ?_
    rintro v w4 ⟨A4, c4, rfl, ho4, hk4⟩
    have kp := kp.keepNo hk4; have hb := hb.keepNo hk4
    (conv => whnf)
    refine VCmp.mk (fun h => absurd rfl h) (fun _ => ?_)
    (conv => whnf)
    refine VCmp.mk (fun h => absurd rfl h) (fun _ => ?_)
    (conv => whnf)
    refine (same_ok w4 (Sl.ofOwn ho4) (hs.keepNo kp) (by omega)).mono ?_
    rintro v w5 ⟨rfl, hk5⟩
    rw [decide_eq_true rfl]
    have kp := kp.keepNo hk5; have hb := hb.keepNo hk5
    (conv => whnf)
    refine VRes.i64 (by omega) ?_; (conv => whnf)
    exact ⟨k + 1, ⟨rfl, rfl, rfl, rfl, rfl, rfl, trivial⟩, ⟨by omega, hb, kp⟩, by omega⟩

/-! ### The statement -/
theorem frameAll_own : ownKnob Tryd.prog.godebug = none := by kernel_rfl
theorem frameAll_laid : laidOutB Tryd.prog = true := by kernel_rfl
set_option maxRecDepth 100000 in
theorem frameAll_lifted (os : Os) (started : os.Started) (H : Type) (enc : TypeId × Value → H) :
    ReturnsInHanded {} Tryd.checked os 6 .any (fun w args => (Rows.frameAllSpec.pre enc Tryd.prog Tryd.f6 Rows.frameAllRow.domain false w args ∧ laidMetH Tryd.prog laidL w) ∧ sizedMet enc Tryd.prog Tryd.f6 (OpenSpec.ofChange Rows.frameAllSpec) false w args) (Rows.frameAllSpec.post enc Tryd.prog Tryd.f6 false true false false) := by
  refine returnsInHanded_of_change_and (C := Tryd.checked) (X := fun w _ => laidMetH Tryd.prog laidL w) (fun _ _ _ hh h => h.of_heap hh) frameAll_own started (by kernel_rfl) Tryd.func6
    (ChangeSpec.witness_at (enc := enc) (C := Tryd.checked) (os := os) (X := fun w _ => laidMetH Tryd.prog laidL w) false (laidWorld os) #[.int .u16 0, .slice none 0 0] 8 rfl (by kernel_rfl) (by kernel_rfl) (by kernel_rfl) (by kernel_rfl) (by kernel_rfl) (laidWorld_met os _)) ?_
  intro W base args ds gs before hval0 hW hcnd _ hL _
  have hg := handle_of_laid hL
  have hval : ∀ (j : Nat) t v, Tryd.f6.params[j]? = some t → args[j]? = some v → Value.okWide Tryd.prog W .any base t v := hval0
  have hW' := hW
  obtain ⟨p, q, hA0, hV, rfl, hfz, hnd⟩ := hW
  have hA : DataW.TrodAll enc Tryd.prog W 0 (fun _ => true) true Tryd.f6.params.toList args.toList ds p := hA0
  rw [Tryd.params6] at hA hval
  obtain ⟨v0, vs0, d0, ds0, p0, q0, hargs, rfl, rfl, h0, r0⟩ := trodAll_cons hA
  obtain ⟨v1, vs1, d1, ds1, p1, q1, rfl, rfl, rfl, h1, r1⟩ := trodAll_cons r0
  obtain ⟨rfl, rfl, rfl⟩ := trodAll_nil r1
  obtain rfl : args = #[v0, v1] := by cases args; simp_all
  obtain ⟨rfl, rfl⟩ := trodVars_none hV
  have k0 := h0
  have lt0 : ∀ x ∈ p0, x.block < W.heap.size := by obtain ⟨m, hm⟩ := k0; exact DataW.trod_lt m _ _ _ hm
  obtain ⟨a0, rfl, rfl, rfl, w0⟩ := open_int Tryd.underlying39 (hval 0 39 v0 rfl rfl) h0
  obtain ⟨m0, rfl⟩ := half_of w0
  have k1 := h1
  have lt1 : ∀ x ∈ p1, x.block < W.heap.size := by obtain ⟨m, hm⟩ := k1; exact DataW.trod_lt m _ _ _ hm
  obtain ⟨aa1, la1, ca1, rfl⟩ := okWide_slice Tryd.underlying25 (hval 1 25 v1 rfl rfl)
  obtain ⟨fuel1, hf1⟩ := h1
  obtain ⟨A1, n1, c1, l1, e1, s1, ln1, nc1, cc1, b1⟩ := open_bytes Tryd.underlying25 Tryd.underlying5 (by kernel_rfl) hf1
  cases e1
  clear hA0 hval0
  refine (VC.law (frameAll_ok W hg m0 aa1 la1 ca1 l1 s1 nc1 cc1 b1)).mono fun e W' ⟨he, bel⟩ => ?_
  subst he
  exact ⟨_, rfl, _, _, _, [], _, [], hW', trodAll_mk1 (shut_bool Tryd.underlying4 _), (trodAll_cons_mk (Below.trod frameAll_laid (by kernel_rfl) (of_decide_eq_true (by kernel_rfl)) k0 bel lt0) (trodAll_cons_mk (Below.trod frameAll_laid (by kernel_rfl) (of_decide_eq_true (by kernel_rfl)) k1 bel lt1) trodAll_mk0)), rfl, bel.frame _, fun h => by cases h⟩

theorem frameAll_over : Rows.frameAllRow.holds Tryd.pinned (OpenSpec.ofChange Rows.frameAllSpec) :=
  OpenClaim.holds_of_wide 6 Tryd.f6 rfl rfl rfl rfl rfl rfl rfl ⟨rfl, rfl, rfl, rfl, rfl⟩ rfl rfl rfl rfl rfl (by kernel_rfl) Tryd.func6 (by kernel_rfl)
    (of_decide_eq_true (by kernel_rfl)) (by unfold Func.isWrapper; first | (rw [if_pos (by decide +kernel)]; kernel_rfl) | (rw [if_neg (by decide +kernel)]; exact ⟨rfl, rfl⟩))
    (fun os started H enc _ => frameAll_lifted os started H enc)


theorem frameAll_proved : Rows.FrameAllCardSaid :=
  Claim7.holds_tied_plain_at .later [] [.handle] true (true, "febc034ccf11541b4f349216a09937fe34c75095d19bc848434b020eb5eb71bc") true
    frameAll_over (fun _ h => by cases h) (by kernel_rfl) (fun _ h => by cases h) frameAll_row_tie rfl ⟨rfl, rfl⟩ (by kernel_rfl) rfl
    (fun f fn hf hfn => by
      obtain rfl : f = 6 := Option.some.inj ((show Tryd.prog.funcNamed "fairlead/fairleadlaw4.FrameAll" = some 6 by kernel_rfl).symm.trans hf) |>.symm
      obtain rfl : fn = Tryd.f6 := (Option.some.inj (Tryd.func6.symm.trans hfn)).symm
      exact ⟨by kernel_rfl, fun j t ht => by
        rw [Tryd.params6] at ht
        exact (match j, ht with
      | 0, ht => by obtain rfl : 39 = t := (by simpa using ht); kernel_rfl
      | 1, ht => by obtain rfl : 25 = t := (by simpa using ht); kernel_rfl
      | j + 2, ht => by simp at ht)⟩)
    (by kernel_rfl)
#print axioms frameAll_proved
end Go.Proofs.YtebkcfdcmincfaaDoor
