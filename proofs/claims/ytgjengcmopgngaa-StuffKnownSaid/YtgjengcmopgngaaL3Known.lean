/-
  StuffKnown: chapter 3's examples. A closed statement.
-/
import Derived.Test.YtgjengcmopgngaaSt8
import Derived.Test.YtgjengcmopgngaaRows
import Derived.Test.YtgjengcmopgngaaVl
namespace Go.Proofs.Ytgjengcmopgngaa
open Go V Go.ChangeShapes Go.WideShapes Go.ChangeAt Go.RowKit
open Go.ChangeMaps (open_string shut_string)

theorem stuffKnown_ok (W : World) : VC Try.prog 4 [] W (fun v w' => v = .bool true ∧ Keep No W w') := by
  refine VC.of tt_ok Try.func4 rfl (by decide +kernel) (Nat.le_of_ble_eq_true rfl) ?_; (conv => whnf)
  refine (awake_ok W).mono ?_
  rintro v w1 ⟨rfl, hk1⟩
  (conv => whnf)
  refine (new_ok _ 0#32 9 (by omega)).mono ?_
  rintro v w2 (⟨h, _⟩ | ⟨q, hq, q1, q2, rfl, hdf, hk2⟩)
  · omega
  obtain rfl : q = 9 := by omega
  (conv => whnf)
  refine (new_ok _ 0#32 0 (by omega)).mono ?_
  rintro v w3 (⟨h, rfl, hk3⟩ | ⟨q, hq, q1, q2, rfl, hdf', hk3⟩)
  rotate_left
  · omega
  (conv => whnf)
  refine VFill.by_ rfl ?_
  (conv => whnf)
  refine ⟨fun w4 hb4 hk4 => ?_⟩
  (conv => whnf)
  have hk24 := (hk3.trans hk4)
  refine (stuff_ok _ _ 3 3 [0x7e, 5, 0x41] 32#32 (Sl.ofBlk (n := 3) (size := 1) (xs := ([0x7e, 5, 0x41] : List UInt8).map vb) hb4 rfl) (by omega)).mono ?_
  rintro v w5 ⟨A5, n5, c5, rfl, ho5, hk5⟩
  have hst : stuffed 32#32 [0x7e, 5, 0x41] = [0x7e, 0x7d, 0x5e, 0x7d, 0x25, 0x41, 0x7e] := by decide
  rw [hst] at ho5
  (conv => whnf)
  refine VFill.by_ rfl ?_
  (conv => whnf)
  refine ⟨fun w6 hb6 hk6 => ?_⟩
  (conv => whnf)
  have hk26 := (hk24.trans hk5).trans hk6
  have hdf6 := hdf.keepNo hk26
  refine (feed_ok (D := 0) (l := [0x41, 0x7d, 0x7e]) _ hdf6 ⟨by decide, by decide, by decide, by decide⟩ (Sl.ofBlk (n := 3) (size := 1) (xs := ([0x41, 0x7d, 0x7e] : List UInt8).map vb) hb6 rfl) ?_ (fun a ha => by cases ha; exact hb6.lt) (by omega) (by omega)).mono ?_
  · rintro a ha (h | ⟨_, h, _⟩)
    · cases ha
      have h : w5.heap.size = w1.heap.size := h
      have := hdf.lt _ (.inl rfl)
      have := (hk24.trans hk5).size
      omega
    · cases h
  rintro v w7 ⟨A7, Ao, no, co, vals, rfl, hst7⟩
  have hfd : Df.feed ⟨0#32, 9, [], false, false, 0⟩ [0x41, 0x7d, 0x7e] = (⟨0#32, 9, [], false, false, 1⟩, []) := by decide
  rw [hfd] at hst7
  have hno := hst7.no_len
  have ho7 : Own w7 w4.heap.size T8 1 A5 n5 c5 (([0x7e, 0x7d, 0x5e, 0x7d, 0x25, 0x41, 0x7e] : List UInt8).map vb) := (ho5.keepNo hk6).keep hst7.keep (by
    rintro a ha (h | ⟨_, h, _⟩)
    · have := (ho5.base_ ha).1
      have := hdf.lt _ (.inl rfl)
      have := hk24.size
      omega
    · cases h)
  (conv => whnf)
  refine VFill.by_ rfl ?_
  (conv => whnf)
  refine ⟨fun w8 hb8 hk8 => ?_⟩
  (conv => whnf)
  have hn5 := Own.len8 ho7
  refine (same_ok _ (Sl.ofOwn (ho7.keepNo hk8)) (Sl.ofBlk (n := 7) (size := 1) (xs := ([0x7e, 0x7d, 0x5e, 0x7d, 0x25, 0x41, 0x7e] : List UInt8).map vb) hb8 rfl) (by rw [hn5]; exact Nat.le_of_ble_eq_true rfl)).mono ?_
  rintro v w9 ⟨rfl, hk9⟩
  rw [decide_eq_true rfl]
  (conv => whnf)
  refine VCmp.mk (fun h5 => ?_) (fun h5 => ?_)
  rotate_left
  · exfalso; apply h5; rw [hno]; rfl
  (conv => whnf)
  refine (dropped_ok _ ((hst7.df.keepNo hk8).keepNo hk9)).mono ?_
  rintro v w10 ⟨rfl, rfl⟩
  (conv => whnf)
  refine VCmp.mk (fun h6 => ?_) (fun h6 => ?_) <;> first | (exfalso; exact h6 rfl) | (conv => whnf)
  refine VCmp.mk (fun h7 => ?_) (fun h7 => ?_) <;> first | (exfalso; exact h7 rfl) | (conv => whnf)
  have k6 : Keep No W w6 := (hk1.trans hk2).trans hk26
  have k7 : Keep No W w7 := k6.toNo hst7.keep (by rintro i (h | ⟨_, h, _⟩) <;> first | (have := hk1.size; omega) | cases h)
  exact ⟨rfl, (k7.trans hk8).trans hk9⟩

/-! ### The statement -/
theorem stuffKnown_own : ownKnob Try.prog.godebug = none := by kernel_rfl
theorem stuffKnown_laid : laidOutB Try.prog = true := by kernel_rfl
set_option maxRecDepth 100000 in
theorem stuffKnown_lifted (os : Os) (started : os.Started) (H : Type) (enc : TypeId × Value → H) :
    ReturnsInHanded {} Try.checked os 4 .any (Rows.stuffKnownSpec.pre6 enc Try.prog Try.f4 Rows.stuffKnownRow.domain false) (Rows.stuffKnownSpec.post enc Try.prog Try.f4 false true false false) := by
  refine returnsInHanded_of_change (C := Try.checked) stuffKnown_own started (by kernel_rfl) Try.func4
    (ChangeSpec.witness6 (enc := enc) (C := Try.checked) false ⟨#[], #[], []⟩ 8 (by kernel_rfl) (by kernel_rfl) (by kernel_rfl) (by kernel_rfl)) ?_
  intro W base args ds gs before hval0 hW hcnd _
  have hval : ∀ (j : Nat) t v, Try.f4.params[j]? = some t → args[j]? = some v → Value.okWide Try.prog W .any base t v := hval0
  have hW' := hW
  obtain ⟨p, q, hA0, hV, rfl, hfz, hnd⟩ := hW
  have hA : DataW.TrodAll enc Try.prog W 0 (fun _ => true) true Try.f4.params.toList args.toList ds p := hA0
  rw [Try.params4] at hA hval
  obtain ⟨rfl, rfl, rfl⟩ := trodAll_none hA
  obtain ⟨rfl, rfl⟩ := trodVars_none hV
  clear hA0 hval0
  refine (VC.law (stuffKnown_ok W )).mono fun e W' ⟨he, bel⟩ => ?_
  subst he
  exact ⟨_, rfl, _, _, _, [], [], [], hW', trodAll_mk1 (shut_bool Try.underlying4 _), trodAll_mk0, rfl, bel.frame _, fun h => by cases h⟩

theorem stuffKnown_over : Rows.stuffKnownRow.holds Try.pinned (OpenSpec.ofChange Rows.stuffKnownSpec) :=
  OpenClaim.holds_of_wide 4 Try.f4 rfl rfl rfl rfl rfl rfl rfl ⟨rfl, rfl, rfl, rfl, rfl⟩ rfl rfl rfl rfl rfl (by kernel_rfl) Try.func4 (by kernel_rfl)
    (of_decide_eq_true (by kernel_rfl)) (by unfold Func.isWrapper; first | (rw [if_pos (by decide +kernel)]; kernel_rfl) | (rw [if_neg (by decide +kernel)]; exact ⟨rfl, rfl⟩))
    (fun os started H enc _ => stuffKnown_lifted os started H enc)

theorem stuffKnown_proved : Rows.StuffKnownSaid := stuffKnown_over
#print axioms stuffKnown_proved
end Go.Proofs.Ytgjengcmopgngaa
