/-
  Law 9: of any secret the hash, or what is wrong with it.
-/
import Derived.Test.YtoeijgbjgbgelaaDoorU3
import Derived.Test.YtoeijgbjgbgelaaDoorVl
namespace Go.Proofs.YtoeijgbjgbgelaaDoor
open Go V Go.ChangeShapes Go.WideShapes Go.ChangeAt Go.RowKit
open Go.ChangeMaps (open_string)

theorem chapHashes_ok (W : World) (hw : LawOk W) (l : List UInt8) :
    VC Tryd.prog 3 [.string (sb l)] W (fun v w' => v = .bool true ∧ Keep No W w') := by
  refine VC.of tt_ok Tryd.func3 rfl (by decide +kernel) (Nat.le_of_ble_eq_true rfl) ?_; (conv => whnf)
  refine (awake9_ok W hw).mono ?_
  rintro v w1 ⟨rfl, kp⟩
  have hw := hw.keepNo kp
  (conv => whnf)
  rw [sb_size]
  refine VCmp.mk (fun h => ?_) (fun h => ?_) <;> (conv => whnf)
  · exact ⟨rfl, kp⟩
  refine (Hash_ok w1 hw l (by omega)).mono ?_
  rintro v w2 ⟨hv, k2⟩
  by_cases h0 : unitsE l = 0
  · rw [if_pos h0] at hv
    obtain ⟨A, c, rfl, hs, _⟩ := hv
    (conv => whnf)
    refine (refHash_ok w2 l (by omega)).mono ?_
    rintro v w3 ⟨hv, k3⟩
    rw [if_pos h0] at hv
    obtain ⟨B, d, rfl, hs3⟩ := hv
    (conv => whnf)
    refine VCmp.mk (fun _ => ?_) (fun h => absurd rfl h); (conv => whnf)
    refine (same_ok w3 (hs.keepNo k3) hs3 (by decide)).mono ?_
    rintro v w4 ⟨rfl, k4⟩
    rw [decide_eq_true rfl]
    (conv => whnf)
    exact ⟨rfl, ((kp.trans k2).trans k3).trans k4⟩
  · rw [if_neg h0] at hv
    subst hv
    (conv => whnf)
    refine (refHash_ok w2 l (by omega)).mono ?_
    rintro v w3 ⟨hv, k3⟩
    rw [if_neg h0] at hv
    subst hv
    (conv => whnf)
    refine VCmp.mk (fun _ => ?_) (fun h => absurd rfl h); (conv => whnf)
    refine (same_ok w3 (l := []) (r := []) Sl.nil Sl.nil (by decide)).mono ?_
    rintro v w4 ⟨rfl, k4⟩
    rw [decide_eq_true rfl]
    (conv => whnf)
    exact ⟨rfl, ((kp.trans k2).trans k3).trans k4⟩

/-! ### The statement -/
theorem chapHashes_own : ownKnob Tryd.prog.godebug = none := by kernel_rfl
theorem chapHashes_laid : laidOutB Tryd.prog = true := by kernel_rfl
set_option maxRecDepth 100000 in
theorem chapHashes_lifted (os : Os) (started : os.Started) (H : Type) (enc : TypeId × Value → H) :
    ReturnsInHanded {} Tryd.checked os 3 .any (fun w args => (Rows.chapHashesSpec.pre enc Tryd.prog Tryd.f3 Rows.chapHashesRow.domain false w args ∧ laidMetH Tryd.prog laidL w) ∧ sizedMet enc Tryd.prog Tryd.f3 (OpenSpec.ofChange Rows.chapHashesSpec) false w args) (Rows.chapHashesSpec.post enc Tryd.prog Tryd.f3 false true false false) := by
  refine returnsInHanded_of_change_and (C := Tryd.checked) (X := fun w _ => laidMetH Tryd.prog laidL w) (fun _ _ _ hh h => h.of_heap hh) chapHashes_own started (by kernel_rfl) Tryd.func3
    (ChangeSpec.witness_at (enc := enc) (C := Tryd.checked) (os := os) (X := fun w _ => laidMetH Tryd.prog laidL w) false (laidWorld os) #[.string ⟨#[]⟩] 8 (by first | rfl | exact laidWorld_os os) (by kernel_rfl) (by kernel_rfl) (by kernel_rfl) (by kernel_rfl) (by kernel_rfl) (laidWorld_met os _)) ?_
  intro W base args ds gs before hval0 hW hcnd _ hL _
  have hg := handle_of_laid hL
  have hval : ∀ (j : Nat) t v, Tryd.f3.params[j]? = some t → args[j]? = some v → Value.okWide Tryd.prog W .any base t v := hval0
  have hW' := hW
  obtain ⟨p, q, hA0, hV, rfl, hfz, hnd⟩ := hW
  have hA : DataW.TrodAll enc Tryd.prog W 0 (fun _ => true) true Tryd.f3.params.toList args.toList ds p := hA0
  rw [Tryd.params3] at hA hval
  obtain ⟨v0, vs0, d0, ds0, p0, q0, hargs, rfl, rfl, h0, r0⟩ := trodAll_cons hA
  obtain ⟨rfl, rfl, rfl⟩ := trodAll_nil r0
  obtain rfl : args = #[v0] := by cases args; simp_all
  obtain ⟨rfl, rfl⟩ := trodVars_none hV
  have k0 := h0
  have lt0 : ∀ x ∈ p0, x.block < W.heap.size := by obtain ⟨m, hm⟩ := k0; exact DataW.trod_lt m _ _ _ hm
  obtain ⟨st0, rfl, rfl, rfl, w0⟩ := open_string Tryd.underlying9 (hval 0 9 v0 rfl rfl) h0
  obtain ⟨l0, rfl⟩ : ∃ l, st0 = sb l := ⟨_, sb_of st0⟩
  clear hA0 hval0
  refine (VC.law (chapHashes_ok W hg l0)).mono fun e W' ⟨he, bel⟩ => ?_
  subst he
  exact ⟨_, rfl, _, _, _, [], _, [], hW', trodAll_mk1 (shut_bool Tryd.underlying4 _), (trodAll_cons_mk (Below.trod chapHashes_laid (by kernel_rfl) (of_decide_eq_true (by kernel_rfl)) k0 bel lt0) trodAll_mk0), rfl, bel.frame _, fun h => by cases h⟩

theorem chapHashes_over : Rows.chapHashesRow.holds Tryd.pinned (OpenSpec.ofChange Rows.chapHashesSpec) :=
  OpenClaim.holds_of_wide 3 Tryd.f3 rfl rfl rfl rfl rfl rfl rfl ⟨rfl, rfl, rfl, rfl, rfl⟩ rfl rfl rfl rfl rfl (by kernel_rfl) Tryd.func3 (by kernel_rfl)
    (of_decide_eq_true (by kernel_rfl)) (by unfold Func.isWrapper; first | (rw [if_pos (by decide +kernel)]; kernel_rfl) | (rw [if_neg (by decide +kernel)]; exact ⟨rfl, rfl⟩))
    (fun os started H enc _ => chapHashes_lifted os started H enc)


theorem chapHashes_proved : Rows.ChapHashesCardSaid :=
  Claim7.holds_tied_plain_at .later [] [.data, .handle, .pinned] true (true, "d848b456771465d59b552508a8352eea4c3a926b5b77aaadab633f6ba219e0b5") true
    chapHashes_over (fun _ h => by cases h) (by kernel_rfl) (fun _ h => by cases h) chapHashes_row_tie rfl ⟨rfl, rfl⟩ (by kernel_rfl) rfl
    (fun f fn hf hfn => by
      obtain rfl : f = 3 := Option.some.inj ((show Tryd.prog.funcNamed "fairlead/fairleadlaw9.ChapHashes" = some 3 by kernel_rfl).symm.trans hf) |>.symm
      obtain rfl : fn = Tryd.f3 := (Option.some.inj (Tryd.func3.symm.trans hfn)).symm
      exact ⟨by kernel_rfl, fun j t ht => by
        rw [Tryd.params3] at ht
        exact (match j, ht with
      | 0, ht => by obtain rfl : 9 = t := (by simpa using ht); kernel_rfl
      | j + 1, ht => by simp at ht)⟩)
    (by kernel_rfl)
#print axioms chapHashes_proved
end Go.Proofs.YtoeijgbjgbgelaaDoor
