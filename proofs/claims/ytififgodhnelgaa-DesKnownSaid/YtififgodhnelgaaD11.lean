/-
  DES: chapter 8's example, and what is refused. A closed statement.
-/
import Derived.Test.YtififgodhnelgaaD10
import Derived.Test.YtififgodhnelgaaVl
import Derived.Test.YtififgodhnelgaaRows
namespace Go.Proofs.Ytififgodhnelgaa
open Go V Go.ChangeShapes Go.WideShapes Go.ChangeAt Go.RowKit

theorem desKnown_ok (W : World) : VC Try.prog 8 [] W (fun v w' => v = .bool true ∧ Keep No W w') := by
  refine VC.of tt_ok Try.func8 rfl (by decide +kernel) (Nat.le_of_ble_eq_true rfl) ?_; (conv => whnf)
  refine (awake8_ok W).mono ?_
  rintro v w1 ⟨rfl, kp⟩
  (conv => whnf)
  refine VDraw.by_ tt_ok rfl (.two 0 (.one 1 (.one 2 (.take 3 (.take 4 (.take 5 (.take 6 (.take 7 .done))))))) 1 (.one 0 (.one 2 (.take 3 (.take 4 (.take 5 (.take 6 (.take 7 .done)))))))) (by decide +kernel) _ (fun x h1 h2 h3 h4 => Keep.ofHeap h1 h2 h3 h4) (fun wd hd kd => ?_)
  have kp := kp.keepNo kd
  (conv => whnf)
  refine ⟨?_, ?_⟩
  · refine VMake.row_ (n := 8) (z := vb 0) (bytes := 1) Try.underlying22 (by kernel_rfl) rfl (by omega) (by omega) ?_
    intro w2 ha ka
    have kd := kd.keepNo ka
    have kp := kp.keepNo ka
    (conv => whnf)
    refine VOwe.same kd ?_
    (conv => whnf)
    refine VMake.row_ (n := 8) (z := vb 0) (bytes := 1) Try.underlying22 (by kernel_rfl) rfl (by omega) (by omega) ?_
    intro w3 hb kb
    have kd := kd.keepNo kb
    have kp := kp.keepNo kb
    (conv => whnf)
    refine VOwe.same kd ?_
    (conv => whnf)
    have ha := ha.keepNo kb
    have ha := Sl.ofBlk (n := 8) (size := 1) ha rfl
    have hb := Sl.ofBlk (n := 8) (size := 1) hb rfl
    refine (encrypt_ok w3 (key := List.replicate 8 0) (x := List.replicate 8 0) ha hb (by omega) (by omega)).mono ?_
    rintro v w4 ⟨hv, hkw4⟩
    rw [if_neg (by omega)] at hv
    subst hv
    have kp := kp.keepNo hkw4
    (conv => whnf)
    refine VOwe.to (fun _ => True) (fun h => absurd h (by decide +kernel)) trivial ?_; (conv => whnf)
    refine VDraw.by_ tt_ok rfl (.two 0 (.one 1 (.one 2 (.take 3 (.take 4 (.take 5 (.take 6 (.take 7 .done))))))) 1 (.one 0 (.one 2 (.take 3 (.take 4 (.take 5 (.take 6 (.take 7 .done)))))))) (by decide +kernel) _ (fun x h1 h2 h3 h4 => Keep.ofHeap h1 h2 h3 h4) (fun wd hd kd => ?_)
    have kp := kp.keepNo kd
    (conv => whnf)
    refine ⟨?_, ?_⟩
    · refine VMake.row_ (n := 7) (z := vb 0) (bytes := 1) Try.underlying22 (by kernel_rfl) rfl (by omega) (by omega) ?_
      intro w5 ha ka
      have kd := kd.keepNo ka
      have kp := kp.keepNo ka
      (conv => whnf)
      refine VOwe.same kd ?_
      (conv => whnf)
      refine VMake.row_ (n := 7) (z := vb 0) (bytes := 1) Try.underlying22 (by kernel_rfl) rfl (by omega) (by omega) ?_
      intro w6 hb kb
      have kd := kd.keepNo kb
      have kp := kp.keepNo kb
      (conv => whnf)
      refine VOwe.same kd ?_
      (conv => whnf)
      have ha := ha.keepNo kb
      have ha := Sl.ofBlk (n := 7) (size := 1) ha rfl
      have hb := Sl.ofBlk (n := 7) (size := 1) hb rfl
      refine (encrypt_ok w6 (key := List.replicate 7 0) (x := List.replicate 7 0) ha hb (by omega) (by omega)).mono ?_
      rintro v w7 ⟨hv, hkw7⟩
      rw [if_neg (by omega)] at hv
      subst hv
      have kp := kp.keepNo hkw7
      (conv => whnf)
      refine VOwe.to (fun _ => True) (fun h => absurd h (by decide +kernel)) trivial ?_; (conv => whnf)
      refine VCmp.mk (fun _ => ?_) (fun h => absurd rfl h); (conv => whnf)
      refine VCmp.mk (fun _ => ?_) (fun h => absurd rfl h); (conv => whnf)
      exact ⟨rfl, kp⟩
    · refine VMake.row_ (n := 7) (z := vb 0) (bytes := 1) Try.underlying22 (by kernel_rfl) rfl (by omega) (by omega) ?_
      intro w5 hb kb
      have kd := kd.keepNo kb
      have kp := kp.keepNo kb
      (conv => whnf)
      refine VOwe.same kd ?_
      (conv => whnf)
      refine VMake.row_ (n := 7) (z := vb 0) (bytes := 1) Try.underlying22 (by kernel_rfl) rfl (by omega) (by omega) ?_
      intro w6 ha ka
      have kd := kd.keepNo ka
      have kp := kp.keepNo ka
      (conv => whnf)
      refine VOwe.same kd ?_
      (conv => whnf)
      have hb := hb.keepNo ka
      have ha := Sl.ofBlk (n := 7) (size := 1) ha rfl
      have hb := Sl.ofBlk (n := 7) (size := 1) hb rfl
      refine (encrypt_ok w6 (key := List.replicate 7 0) (x := List.replicate 7 0) ha hb (by omega) (by omega)).mono ?_
      rintro v w7 ⟨hv, hkw7⟩
      rw [if_neg (by omega)] at hv
      subst hv
      have kp := kp.keepNo hkw7
      (conv => whnf)
      refine VOwe.to (fun _ => True) (fun h => absurd h (by decide +kernel)) trivial ?_; (conv => whnf)
      refine VCmp.mk (fun _ => ?_) (fun h => absurd rfl h); (conv => whnf)
      refine VCmp.mk (fun _ => ?_) (fun h => absurd rfl h); (conv => whnf)
      exact ⟨rfl, kp⟩
  · refine VMake.row_ (n := 8) (z := vb 0) (bytes := 1) Try.underlying22 (by kernel_rfl) rfl (by omega) (by omega) ?_
    intro w2 hb kb
    have kd := kd.keepNo kb
    have kp := kp.keepNo kb
    (conv => whnf)
    refine VOwe.same kd ?_
    (conv => whnf)
    refine VMake.row_ (n := 8) (z := vb 0) (bytes := 1) Try.underlying22 (by kernel_rfl) rfl (by omega) (by omega) ?_
    intro w3 ha ka
    have kd := kd.keepNo ka
    have kp := kp.keepNo ka
    (conv => whnf)
    refine VOwe.same kd ?_
    (conv => whnf)
    have hb := hb.keepNo ka
    have ha := Sl.ofBlk (n := 8) (size := 1) ha rfl
    have hb := Sl.ofBlk (n := 8) (size := 1) hb rfl
    refine (encrypt_ok w3 (key := List.replicate 8 0) (x := List.replicate 8 0) ha hb (by omega) (by omega)).mono ?_
    rintro v w4 ⟨hv, hkw4⟩
    rw [if_neg (by omega)] at hv
    subst hv
    have kp := kp.keepNo hkw4
    (conv => whnf)
    refine VOwe.to (fun _ => True) (fun h => absurd h (by decide +kernel)) trivial ?_; (conv => whnf)
    refine VDraw.by_ tt_ok rfl (.two 0 (.one 1 (.one 2 (.take 3 (.take 4 (.take 5 (.take 6 (.take 7 .done))))))) 1 (.one 0 (.one 2 (.take 3 (.take 4 (.take 5 (.take 6 (.take 7 .done)))))))) (by decide +kernel) _ (fun x h1 h2 h3 h4 => Keep.ofHeap h1 h2 h3 h4) (fun wd hd kd => ?_)
    have kp := kp.keepNo kd
    (conv => whnf)
    refine ⟨?_, ?_⟩
    · refine VMake.row_ (n := 7) (z := vb 0) (bytes := 1) Try.underlying22 (by kernel_rfl) rfl (by omega) (by omega) ?_
      intro w5 ha ka
      have kd := kd.keepNo ka
      have kp := kp.keepNo ka
      (conv => whnf)
      refine VOwe.same kd ?_
      (conv => whnf)
      refine VMake.row_ (n := 7) (z := vb 0) (bytes := 1) Try.underlying22 (by kernel_rfl) rfl (by omega) (by omega) ?_
      intro w6 hb kb
      have kd := kd.keepNo kb
      have kp := kp.keepNo kb
      (conv => whnf)
      refine VOwe.same kd ?_
      (conv => whnf)
      have ha := ha.keepNo kb
      have ha := Sl.ofBlk (n := 7) (size := 1) ha rfl
      have hb := Sl.ofBlk (n := 7) (size := 1) hb rfl
      refine (encrypt_ok w6 (key := List.replicate 7 0) (x := List.replicate 7 0) ha hb (by omega) (by omega)).mono ?_
      rintro v w7 ⟨hv, hkw7⟩
      rw [if_neg (by omega)] at hv
      subst hv
      have kp := kp.keepNo hkw7
      (conv => whnf)
      refine VOwe.to (fun _ => True) (fun h => absurd h (by decide +kernel)) trivial ?_; (conv => whnf)
      refine VCmp.mk (fun _ => ?_) (fun h => absurd rfl h); (conv => whnf)
      refine VCmp.mk (fun _ => ?_) (fun h => absurd rfl h); (conv => whnf)
      exact ⟨rfl, kp⟩
    · refine VMake.row_ (n := 7) (z := vb 0) (bytes := 1) Try.underlying22 (by kernel_rfl) rfl (by omega) (by omega) ?_
      intro w5 hb kb
      have kd := kd.keepNo kb
      have kp := kp.keepNo kb
      (conv => whnf)
      refine VOwe.same kd ?_
      (conv => whnf)
      refine VMake.row_ (n := 7) (z := vb 0) (bytes := 1) Try.underlying22 (by kernel_rfl) rfl (by omega) (by omega) ?_
      intro w6 ha ka
      have kd := kd.keepNo ka
      have kp := kp.keepNo ka
      (conv => whnf)
      refine VOwe.same kd ?_
      (conv => whnf)
      have hb := hb.keepNo ka
      have ha := Sl.ofBlk (n := 7) (size := 1) ha rfl
      have hb := Sl.ofBlk (n := 7) (size := 1) hb rfl
      refine (encrypt_ok w6 (key := List.replicate 7 0) (x := List.replicate 7 0) ha hb (by omega) (by omega)).mono ?_
      rintro v w7 ⟨hv, hkw7⟩
      rw [if_neg (by omega)] at hv
      subst hv
      have kp := kp.keepNo hkw7
      (conv => whnf)
      refine VOwe.to (fun _ => True) (fun h => absurd h (by decide +kernel)) trivial ?_; (conv => whnf)
      refine VCmp.mk (fun _ => ?_) (fun h => absurd rfl h); (conv => whnf)
      refine VCmp.mk (fun _ => ?_) (fun h => absurd rfl h); (conv => whnf)
      exact ⟨rfl, kp⟩

/-! ### The statement -/
theorem desKnown_own : ownKnob Try.prog.godebug = none := by kernel_rfl
theorem desKnown_laid : laidOutB Try.prog = true := by kernel_rfl
set_option maxRecDepth 100000 in
theorem desKnown_lifted (os : Os) (started : os.Started) (H : Type) (enc : TypeId × Value → H) :
    ReturnsInHanded {} Try.checked os 8 .any (Rows.desKnownSpec.pre6 enc Try.prog Try.f8 Rows.desKnownRow.domain false) (Rows.desKnownSpec.post enc Try.prog Try.f8 false true false false) := by
  refine returnsInHanded_of_change (C := Try.checked) desKnown_own started (by kernel_rfl) Try.func8
    (ChangeSpec.witness6 (enc := enc) (C := Try.checked) false ⟨#[], #[], []⟩ 8 (by kernel_rfl) (by kernel_rfl) (by kernel_rfl) (by kernel_rfl)) ?_
  intro W base args ds gs before hval0 hW hcnd _
  have hval : ∀ (j : Nat) t v, Try.f8.params[j]? = some t → args[j]? = some v → Value.okWide Try.prog W .any base t v := hval0
  have hW' := hW
  obtain ⟨p, q, hA0, hV, rfl, hfz, hnd⟩ := hW
  have hA : DataW.TrodAll enc Try.prog W 0 (fun _ => true) true Try.f8.params.toList args.toList ds p := hA0
  rw [Try.params8] at hA hval
  obtain ⟨rfl, rfl, rfl⟩ := trodAll_none hA
  obtain ⟨rfl, rfl⟩ := trodVars_none hV
  clear hA0 hval0
  refine (VC.law (desKnown_ok W )).mono fun e W' ⟨he, bel⟩ => ?_
  subst he
  exact ⟨_, rfl, _, _, _, [], [], [], hW', trodAll_mk1 (shut_bool Try.underlying4 _), trodAll_mk0, rfl, bel.frame _, fun h => by cases h⟩

theorem desKnown_over : Rows.desKnownRow.holds Try.pinned (OpenSpec.ofChange Rows.desKnownSpec) :=
  OpenClaim.holds_of_wide 8 Try.f8 rfl rfl rfl rfl rfl rfl rfl ⟨rfl, rfl, rfl, rfl, rfl⟩ rfl rfl rfl rfl rfl (by kernel_rfl) Try.func8 (by kernel_rfl)
    (of_decide_eq_true (by kernel_rfl)) (by unfold Func.isWrapper; first | (rw [if_pos (by decide +kernel)]; kernel_rfl) | (rw [if_neg (by decide +kernel)]; exact ⟨rfl, rfl⟩))
    (fun os started H enc _ => desKnown_lifted os started H enc)

theorem desKnown_proved : Rows.DesKnownSaid := desKnown_over
#print axioms desKnown_proved
end Go.Proofs.Ytififgodhnelgaa
