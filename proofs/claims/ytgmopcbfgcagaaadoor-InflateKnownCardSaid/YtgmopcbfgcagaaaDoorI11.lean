/-
  Law 18: chapter 18's examples. A closed statement.
-/
import Derived.Test.YtgmopcbfgcagaaaDoorI10
import Derived.Test.YtgmopcbfgcagaaaDoorLi
import Derived.Test.YtgmopcbfgcagaaaDoorVl
namespace Go.Proofs.YtgmopcbfgcagaaaDoor
open Go V Go.ChangeShapes Go.WideShapes Go.ChangeAt Go.RowKit

theorem k1_known : outB (blocksF (8 * ([1, 2, 0, 253, 255, 97, 98] : List UInt8).length + 1) (startS [1, 2, 0, 253, 255, 97, 98] [] 9)) [97, 98] 7 = true := by decide +kernel
theorem k1_nodyn : noDynsB (8 * ([1, 2, 0, 253, 255, 97, 98] : List UInt8).length + 1) (startS [1, 2, 0, 253, 255, 97, 98] [] 9) = true := by decide +kernel
theorem k2_known : errB (blocksF (8 * ([7] : List UInt8).length + 1) (startS [7] [] 9)) 10 = true := by decide +kernel
theorem k2_nodyn : noDynsB (8 * ([7] : List UInt8).length + 1) (startS [7] [] 9) = true := by decide +kernel
def noDynPB : Nat → IS → Bool
  | 0, _ => true
  | f + 1, s => numL s.l (s.at_ + 1) 2 != 2 && match blockF s with
    | .error _ => true
    | .ok (s', la, _) => if la then true else if s'.at_ < 8 * s'.l.length then noDynPB f s' else true
theorem noDynP_of : ∀ {f : Nat} {s : IS}, noDynPB f s = true → NoDynP f s
  | 0, _, _ => trivial
  | f + 1, s, h => by
    unfold noDynPB at h
    rw [Bool.and_eq_true] at h
    refine ⟨by unfold NoDyn; simpa using h.1, ?_⟩
    cases hP : blockF s with
    | error e => trivial
    | ok r =>
      obtain ⟨s', la, em⟩ := r
      rw [hP] at h
      cases la with
      | true => exact trivial
      | false =>
        have h2 : (if s'.at_ < 8 * s'.l.length then noDynPB f s' else true) = true := h.2
        show (if s'.at_ < 8 * s'.l.length then NoDynP f s' else True)
        split
        · rename_i hl
          rw [if_pos hl] at h2
          exact noDynP_of h2
        · trivial
theorem k3_known : outB (packK (8 * (tailB [74, 76, 74, 6, 0]).length + 1) (startS (tailB [74, 76, 74, 6, 0]) [] 9)) [97, 98, 99] 9 = true := by decide +kernel
theorem k3_nodyn : noDynPB (8 * (tailB [74, 76, 74, 6, 0]).length + 1) (startS (tailB [74, 76, 74, 6, 0]) [] 9) = true := by decide +kernel

set_option maxRecDepth 100000 in
theorem inflateKnown_ok (W : World) (hg : EtOk W) : VC Tryd.prog 5 [] W (fun v w' => v = .bool true ∧ Keep No W w') := by
  refine VC.of tt_ok Tryd.func5 rfl (by decide +kernel) (Nat.le_of_ble_eq_true rfl) ?_; (conv => whnf)
  refine (awake18_ok W hg).mono ?_
  rintro v w1 ⟨rfl, kp⟩
  (conv => whnf)
  refine VFill.by_ rfl ?_; (conv => whnf)
  refine ⟨fun w2 hb2 k2 => ?_⟩
  have kp := kp.keepNo k2
  (conv => whnf)
  refine (Blocks_ok w2 (hg.keepNo kp) (b := [1, 2, 0, 253, 255, 97, 98]) (hist := []) (most := 9) (Sl.ofBlk (n := 7) (size := 1) hb2 rfl) Sl.nil (by omega) (by omega) (by omega) (by omega) (noDyns_of k1_nodyn)).mono ?_
  rintro v w3 ⟨hv, k3⟩
  have kp := kp.keepNo k3
  obtain ⟨s', e1, e2, e3⟩ := blocks_is k1_known
  rw [e1] at hv
  dsimp only at hv
  rw [e2, e3] at hv
  obtain ⟨A3, c3, rfl, ho3⟩ := hv
  have s3 := Sl.ofOwn ho3
  (conv => whnf)
  refine VFill.by_ rfl ?_; (conv => whnf)
  refine ⟨fun w4 hb4 k4 => ?_⟩
  have kp := kp.keepNo k4; have s3 := s3.keepNo k4
  (conv => whnf)
  refine (Blocks_ok w4 (hg.keepNo kp) (b := [7]) (hist := []) (most := 9) (Sl.ofBlk (n := 1) (size := 1) hb4 rfl) Sl.nil (by omega) (by omega) (by omega) (by omega) (noDyns_of k2_nodyn)).mono ?_
  rintro v w5 ⟨hv, k5⟩
  have kp := kp.keepNo k5; have s3 := s3.keepNo k5
  rw [error_is k2_known] at hv
  have hv : v = .tuple #[.slice none 0 0, .int .i64 0, .int .i64 10] := hv
  subst hv
  (conv => whnf)
  refine (inew_ok w5).mono ?_
  rintro v w6 ⟨⟨y, rfl, hy, hy0⟩, k6⟩
  have kp := kp.keepNo k6; have s3 := s3.keepNo k6
  (conv => whnf)
  refine VFill.by_ rfl ?_; (conv => whnf)
  refine ⟨fun w7 hb7 k7 => ?_⟩
  have kp := kp.keepNo k7; have s3 := s3.keepNo k7; have hy := hy.keepNo k7
  (conv => whnf)
  refine (packet_ok w7 (hg.keepNo kp) hy (by decide) (b := [74, 76, 74, 6, 0]) (most := 9) (Sl.ofBlk (n := 5) (size := 1) hb7 rfl) (by omega) (by omega) (noDynP_of k3_nodyn)).mono ?_
  rintro v w8 ⟨hv, k8⟩
  obtain ⟨s'', e1, e2, e3⟩ := blocks_is k3_known
  rw [e1] at hv
  dsimp only at hv
  rw [e2] at hv
  obtain ⟨⟨A8, c8, rfl, s8⟩, hy8⟩ := hv
  have kp5 : Keep No W w5 := by assumption
  have kp8 : Keep No W w8 := kp.toNo k8 (fun i e => by subst e; have := kp5.size; omega)
  have s3 := s3.keep k8 (fun a ha e => by
    obtain ⟨_, _, z1, _⟩ := hy
    have hty : Ty w7 a.block T8 := ((((ho3.ty ha).keepNo k4).keepNo k5).keepNo k6).keepNo k7
    exact hty.ne z1.ty (by decide) e)
  (conv => whnf)
  refine VCmp.mk (fun _ => ?_) (fun h => absurd rfl h); (conv => whnf)
  refine VCmp.mk (fun _ => ?_) (fun h => absurd rfl h); (conv => whnf)
  refine VConv.toStr (l := [97, 98]) s3 ?_
  (conv => whnf)
  refine VCmp.mk (fun _ => ?_) (fun h => absurd rfl h); (conv => whnf)
  refine VCmp.mk (fun _ => ?_) (fun h => absurd rfl h); (conv => whnf)
  refine VCmp.mk (fun _ => ?_) (fun h => absurd rfl h); (conv => whnf)
  refine VConv.toStr (l := [97, 98, 99]) s8 ?_
  (conv => whnf)
  refine VCmp.mk (fun _ => ?_) (fun h => absurd rfl h); (conv => whnf)
  refine (ilen_ok w8 hy8).mono ?_
  rintro v w9 ⟨rfl, rfl⟩
  have hl : (win ([] ++ [97, 98, 99])).length = 3 := by decide +kernel
  rw [hl]
  (conv => whnf)
  refine VCmp.mk (fun _ => ?_) (fun h => absurd rfl h); (conv => whnf)
  exact ⟨rfl, kp8⟩

/-! ### The statement -/
theorem inflateKnown_own : ownKnob Tryd.prog.godebug = none := by kernel_rfl
theorem inflateKnown_laid : laidOutB Tryd.prog = true := by kernel_rfl
set_option maxRecDepth 100000 in
theorem inflateKnown_lifted (os : Os) (started : os.Started) (H : Type) (enc : TypeId × Value → H) :
    ReturnsInHanded {} Tryd.checked os 5 .any (fun w args => (Rows.inflateKnownSpec.pre enc Tryd.prog Tryd.f5 Rows.inflateKnownRow.domain false w args ∧ laidMetH Tryd.prog laidL w) ∧ sizedMet enc Tryd.prog Tryd.f5 (OpenSpec.ofChange Rows.inflateKnownSpec) false w args) (Rows.inflateKnownSpec.post enc Tryd.prog Tryd.f5 false true false false) := by
  refine returnsInHanded_of_change_and (C := Tryd.checked) (X := fun w _ => laidMetH Tryd.prog laidL w) (fun _ _ _ hh h => h.of_heap hh) inflateKnown_own started (by kernel_rfl) Tryd.func5
    (ChangeSpec.witness_at (enc := enc) (C := Tryd.checked) (os := os) (X := fun w _ => laidMetH Tryd.prog laidL w) false (laidWorld os) #[] 8 (by first | rfl | exact laidWorld_os os) (by kernel_rfl) (by kernel_rfl) (by kernel_rfl) (by kernel_rfl) (by kernel_rfl) (laidWorld_met os _)) ?_
  intro W base args ds gs before hval0 hW hcnd _ hL _
  have hg := handle_of_laid hL
  have hval : ∀ (j : Nat) t v, Tryd.f5.params[j]? = some t → args[j]? = some v → Value.okWide Tryd.prog W .any base t v := hval0
  have hW' := hW
  obtain ⟨p, q, hA0, hV, rfl, hfz, hnd⟩ := hW
  have hA : DataW.TrodAll enc Tryd.prog W 0 (fun _ => true) true Tryd.f5.params.toList args.toList ds p := hA0
  rw [Tryd.params5] at hA hval
  obtain ⟨rfl, rfl, rfl⟩ := trodAll_none hA
  obtain ⟨rfl, rfl⟩ := trodVars_none hV
  clear hA0 hval0
  refine (VC.law (inflateKnown_ok W hg )).mono fun e W' ⟨he, bel⟩ => ?_
  subst he
  exact ⟨_, rfl, _, _, _, [], [], [], hW', trodAll_mk1 (shut_bool Tryd.underlying4 _), trodAll_mk0, rfl, bel.frame _, fun h => by cases h⟩

theorem inflateKnown_over : Rows.inflateKnownRow.holds Tryd.pinned (OpenSpec.ofChange Rows.inflateKnownSpec) :=
  OpenClaim.holds_of_wide 5 Tryd.f5 rfl rfl rfl rfl rfl rfl rfl ⟨rfl, rfl, rfl, rfl, rfl⟩ rfl rfl rfl rfl rfl (by kernel_rfl) Tryd.func5 (by kernel_rfl)
    (of_decide_eq_true (by kernel_rfl)) (by unfold Func.isWrapper; first | (rw [if_pos (by decide +kernel)]; kernel_rfl) | (rw [if_neg (by decide +kernel)]; exact ⟨rfl, rfl⟩))
    (fun os started H enc _ => inflateKnown_lifted os started H enc)


theorem inflateKnown_proved : Rows.InflateKnownCardSaid :=
  Claim7.holds_tied_plain_at .later [] [.handle] true (true, "12487687b0f2a4e326227b334f4ab789487ca98c6e08befe4bc67b2096b1f006") true
    inflateKnown_over (fun _ h => by cases h) (by kernel_rfl) (fun _ h => by cases h) inflateKnown_row_tie rfl ⟨rfl, rfl⟩ (by kernel_rfl) rfl
    (fun f fn hf hfn => by
      obtain rfl : f = 5 := Option.some.inj ((show Tryd.prog.funcNamed "fairlead/fairleadlaw18.InflateKnown" = some 5 by kernel_rfl).symm.trans hf) |>.symm
      obtain rfl : fn = Tryd.f5 := (Option.some.inj (Tryd.func5.symm.trans hfn)).symm
      exact ⟨by kernel_rfl, fun j t ht => by
        rw [Tryd.params5] at ht
        exact (match j, ht with

      | j + 0, ht => by simp at ht)⟩)
    (by kernel_rfl)
#print axioms inflateKnown_proved
end Go.Proofs.YtgmopcbfgcagaaaDoor
