/-
  Law 6: awake, Md4Known.
-/
import Derived.Test.YtgjengcmopgngabM3
import Derived.Test.YtgjengcmopgngabVm
import Derived.Test.YtgjengcmopgngabVl
import Derived.Test.YtgjengcmopgngabRows
namespace Go.Proofs.Ytgjengcmopgngab
open Go V Go.ChangeShapes Go.WideShapes Go.ChangeAt Go.RowKit
open Go.ChangeMaps (open_string shut_string)

theorem Own.le_cap' {w : World} {base e size n c : Nat} {A : Option Addr} {xs : List Value} (h : Own w base e size A n c xs) {k : Nat} (hk : k ≤ n := by omega) : k ≤ c := by
  rcases h.2 with ⟨h0, h1⟩ | ⟨g, cap, cur, hv, hg, hh, h1, _⟩
  · injection h0 with _ h2 h3; omega
  · injection hv with _ _ h3; omega

theorem awake6_ok (w : World) : VC Try.prog 12 [] w (fun v w' => v = .bool true ∧ Keep No w w') := by
  refine VC.of tt_ok Try.func12 rfl (by decide +kernel) (Nat.le_of_ble_eq_true rfl) ?_; (conv => whnf)
  refine (sum_ok w (l := []) Sl.nil (by omega)).mono ?_
  rintro v w1 ⟨A1, c1, rfl, ho1, hk1⟩
  (conv => whnf)
  refine VCmp.mk (fun h => ?_) (fun h => absurd rfl h)
  (conv => whnf)
  refine VCut.by_ 0 4 rfl rfl (by omega) (Own.le_cap' ho1) ?_
  intro A2 hA2
  have hsc := Sl.cut (Sl.ofOwn ho1) (l := 0) (h := 4) (by omega) (by omega) (Own.le_cap' ho1) hA2
  (conv => whnf)
  refine VFill.by_ rfl ?_
  (conv => whnf)
  refine ⟨fun w2 hb2 hk2 => ?_⟩
  (conv => whnf)
  have e : (((md4 []).map vb).take (4 * 1)).drop (0 * 1) = ([0x31, 0xd6, 0xcf, 0xe0] : List UInt8).map vb := by
    have : (md4 []).take 4 = [0x31, 0xd6, 0xcf, 0xe0] := by decide +kernel
    show List.take 4 _ = _
    rw [← List.map_take, this]
  rw [e] at hsc
  refine (same_ok _ (l := [0x31, 0xd6, 0xcf, 0xe0]) (r := [0x31, 0xd6, 0xcf, 0xe0]) (hsc.keepNo hk2) (Sl.ofBlk (n := 4) (size := 1) hb2 rfl) (by omega)).mono ?_
  rintro v w3 ⟨rfl, hk3⟩
  (conv => whnf)
  exact ⟨rfl, (hk1.trans hk2).trans hk3⟩

theorem md4Known_ok (w : World) : VC Try.prog 4 [] w (fun v w' => v = .bool true ∧ Keep No w w') := by
  refine VC.of tt_ok Try.func4 rfl (by decide +kernel) (Nat.le_of_ble_eq_true rfl) ?_; (conv => whnf)
  refine (awake6_ok w).mono ?_
  rintro v w1 ⟨rfl, hk1⟩
  (conv => whnf)
  refine VFill.by_ rfl ?_
  (conv => whnf)
  refine ⟨fun w2 hb2 hk2 => ?_⟩
  (conv => whnf)
  refine VConv.mark hb2 ?_
  intro w3 hc3 hk3
  have hs1 := hk1.size
  have hk3' : Keep No w w3 := (hk1.trans hk2).toNo hk3 (fun i hi => by omega)
  (conv => whnf)
  refine (sum_ok w3 (l := [97, 98, 99]) (n := 3) ⟨rfl, .inr ⟨_, 0, rfl, fun j v hj => by rw [Nat.zero_add, hc3]; exact hj⟩⟩ (by omega)).mono ?_
  rintro v w4 ⟨A4, c4, rfl, ho4, hk4⟩
  (conv => whnf)
  refine VFill.by_ rfl ?_
  (conv => whnf)
  refine ⟨fun w5 hb5 hk5 => ?_⟩
  (conv => whnf)
  have e : md4 [97, 98, 99] = [164, 72, 1, 122, 175, 33, 216, 82, 95, 193, 10, 232, 122, 166, 114, 157] := by decide +kernel
  rw [e] at ho4
  refine (same_ok _ (r := [164, 72, 1, 122, 175, 33, 216, 82, 95, 193, 10, 232, 122, 166, 114, 157]) (Sl.ofOwn (ho4.keepNo hk5)) (Sl.ofBlk (n := 16) (size := 1) hb5 rfl) (by omega)).mono ?_
  rintro v w6 ⟨rfl, hk6⟩
  (conv => whnf)
  exact ⟨rfl, ((hk3'.trans hk4).trans hk5).trans hk6⟩

/-! ### The statement -/
theorem md4Known_own : ownKnob Try.prog.godebug = none := by kernel_rfl
theorem md4Known_laid : laidOutB Try.prog = true := by kernel_rfl
set_option maxRecDepth 100000 in
theorem md4Known_lifted (os : Os) (started : os.Started) (H : Type) (enc : TypeId × Value → H) :
    ReturnsInHanded {} Try.checked os 4 .any (Rows.md4KnownSpec.pre6 enc Try.prog Try.f4 Rows.md4KnownRow.domain false) (Rows.md4KnownSpec.post enc Try.prog Try.f4 false true false false) := by
  refine returnsInHanded_of_change (C := Try.checked) md4Known_own started (by kernel_rfl) Try.func4
    (ChangeSpec.witness6 (enc := enc) (C := Try.checked) false ⟨#[], #[], []⟩ 8 (by kernel_rfl) (by kernel_rfl) (by kernel_rfl) (by kernel_rfl)) ?_
  intro W base args ds gs before hval0 hW hcnd _
  have hval : ∀ (j : Nat) t v, Try.f4.params[j]? = some t → args[j]? = some v → Value.okWide Try.prog W .any base t v := hval0
  have hW' := hW
  obtain ⟨p, q, hA0, hV, rfl, hfz, hnd⟩ := hW
  have hA : DataW.TrodAll enc Try.prog W 0 (fun _ => true) true Try.f4.params.toList args.toList ds p := hA0
  rw [Try.params4] at hA hval
  obtain ⟨rfl, rfl, rfl⟩ := trodAll_none hA
  obtain ⟨rfl, rfl⟩ := trodVars_none hV
  clear hA0 hval0
  refine (VC.law (md4Known_ok W )).mono fun e W' ⟨he, bel⟩ => ?_
  subst he
  exact ⟨_, rfl, _, _, _, [], [], [], hW', trodAll_mk1 (shut_bool Try.underlying4 _), trodAll_mk0, rfl, bel.frame _, fun h => by cases h⟩

theorem md4Known_over : Rows.md4KnownRow.holds Try.pinned (OpenSpec.ofChange Rows.md4KnownSpec) :=
  OpenClaim.holds_of_wide 4 Try.f4 rfl rfl rfl rfl rfl rfl rfl ⟨rfl, rfl, rfl, rfl, rfl⟩ rfl rfl rfl rfl rfl (by kernel_rfl) Try.func4 (by kernel_rfl)
    (of_decide_eq_true (by kernel_rfl)) (by unfold Func.isWrapper; first | (rw [if_pos (by decide +kernel)]; kernel_rfl) | (rw [if_neg (by decide +kernel)]; exact ⟨rfl, rfl⟩))
    (fun os started H enc _ => md4Known_lifted os started H enc)

theorem md4Known_proved : Rows.Md4KnownSaid := md4Known_over
#print axioms md4Known_proved
end Go.Proofs.Ytgjengcmopgngab
