/-
  Law 6: Md4Sums.
-/
import Derived.Test.YtgjengcmopgngabM4
import Derived.Test.YtgjengcmopgngabM5
namespace Go.Proofs.Ytgjengcmopgngab
open Go V Go.ChangeShapes Go.WideShapes Go.ChangeAt Go.RowKit
open Go.ChangeMaps (open_string shut_string)

theorem md4Sums_ok (W : World) (A : Option Addr) (n c : Nat) (l : List UInt8) (hs : Sl W 1 A n (l.map vb)) (hnc : n ≤ c) (hc : c ≤ 9223372036854775807) (hb : ∀ a, A = some a → 0 < n → a.block < W.heap.size) :
    VC Try.prog 5 [.slice A n c] W (fun v w' => v = .bool true ∧ Keep No W w') := by
  refine VC.of tt_ok Try.func5 rfl (by decide +kernel) (Nat.le_of_ble_eq_true rfl) ?_; (conv => whnf)
  refine (awake6_ok W).mono ?_
  rintro v w1 ⟨rfl, hk1⟩
  (conv => whnf)
  refine VCmp.mk (fun h => ?_) (fun h => ?_) <;> (conv => whnf)
  · exact ⟨rfl, hk1⟩
  · have hs1 := hs.keepNo hk1
    refine (copy_ok w1 hs1 (by omega)).mono ?_
    rintro v w2 ⟨A2, c2, rfl, ho2, hk2⟩
    (conv => whnf)
    have hs2 := hs1.keepNo hk2
    refine (sum_ok w2 hs2 (by omega)).mono ?_
    rintro v w3 ⟨A3, c3, rfl, ho3, hk3⟩
    (conv => whnf)
    have hs3 := hs2.keepNo hk3
    refine (refMd4_ok w3 hs3 (by omega)).mono ?_
    rintro v w4 ⟨A4, c4, rfl, ho4, hk4⟩
    (conv => whnf)
    refine (same_ok w4 (Sl.ofOwn (ho3.keepNo hk4)) (Sl.ofOwn ho4) (by omega)).mono ?_
    rintro v w5 ⟨rfl, hk5⟩
    rw [decide_eq_true rfl]
    (conv => whnf)
    refine (same_ok w5 (Sl.ofOwn (((ho2.keepNo hk3).keepNo hk4).keepNo hk5)) ((hs3.keepNo hk4).keepNo hk5) (by omega)).mono ?_
    rintro v w6 ⟨rfl, hk6⟩
    rw [decide_eq_true rfl]
    (conv => whnf)
    exact ⟨rfl, ((((hk1.trans hk2).trans hk3).trans hk4).trans hk5).trans hk6⟩

/-! ### The statement -/
theorem md4Sums_own : ownKnob Try.prog.godebug = none := by kernel_rfl
theorem md4Sums_laid : laidOutB Try.prog = true := by kernel_rfl
set_option maxRecDepth 100000 in
theorem md4Sums_lifted (os : Os) (started : os.Started) (H : Type) (enc : TypeId × Value → H) :
    ReturnsInHanded {} Try.checked os 5 .any (Rows.md4SumsSpec.pre6 enc Try.prog Try.f5 Rows.md4SumsRow.domain false) (Rows.md4SumsSpec.post enc Try.prog Try.f5 false true false false) := by
  refine returnsInHanded_of_change (C := Try.checked) md4Sums_own started (by kernel_rfl) Try.func5
    (ChangeSpec.witness6 (enc := enc) (C := Try.checked) false ⟨#[], #[.slice none 0 0], []⟩ 8 (by kernel_rfl) (by kernel_rfl) (by kernel_rfl) (by kernel_rfl)) ?_
  intro W base args ds gs before hval0 hW hcnd _
  have hval : ∀ (j : Nat) t v, Try.f5.params[j]? = some t → args[j]? = some v → Value.okWide Try.prog W .any base t v := hval0
  have hW' := hW
  obtain ⟨p, q, hA0, hV, rfl, hfz, hnd⟩ := hW
  have hA : DataW.TrodAll enc Try.prog W 0 (fun _ => true) true Try.f5.params.toList args.toList ds p := hA0
  rw [Try.params5] at hA hval
  obtain ⟨v0, vs0, d0, ds0, p0, q0, hargs, rfl, rfl, h0, r0⟩ := trodAll_cons hA
  obtain ⟨rfl, rfl, rfl⟩ := trodAll_nil r0
  obtain rfl : args = #[v0] := by cases args; simp_all
  obtain ⟨rfl, rfl⟩ := trodVars_none hV
  have k0 := h0
  have lt0 : ∀ x ∈ p0, x.block < W.heap.size := by obtain ⟨m, hm⟩ := k0; exact DataW.trod_lt m _ _ _ hm
  obtain ⟨aa0, la0, ca0, rfl⟩ := okWide_slice Try.underlying22 (hval 0 22 v0 rfl rfl)
  obtain ⟨fuel0, hf0⟩ := h0
  obtain ⟨A0, n0, c0, l0, e0, s0, ln0, nc0, cc0, b0⟩ := open_bytes Try.underlying22 Try.underlying5 (by kernel_rfl) hf0
  cases e0
  clear hA0 hval0
  refine (VC.law (md4Sums_ok W aa0 la0 ca0 l0 s0 nc0 cc0 b0)).mono fun e W' ⟨he, bel⟩ => ?_
  subst he
  exact ⟨_, rfl, _, _, _, [], _, [], hW', trodAll_mk1 (shut_bool Try.underlying4 _), (trodAll_cons_mk (Below.trod md4Sums_laid (by kernel_rfl) (of_decide_eq_true (by kernel_rfl)) k0 bel lt0) trodAll_mk0), rfl, bel.frame _, fun h => by cases h⟩

theorem md4Sums_over : Rows.md4SumsRow.holds Try.pinned (OpenSpec.ofChange Rows.md4SumsSpec) :=
  OpenClaim.holds_of_wide 5 Try.f5 rfl rfl rfl rfl rfl rfl rfl ⟨rfl, rfl, rfl, rfl, rfl⟩ rfl rfl rfl rfl rfl (by kernel_rfl) Try.func5 (by kernel_rfl)
    (of_decide_eq_true (by kernel_rfl)) (by unfold Func.isWrapper; first | (rw [if_pos (by decide +kernel)]; kernel_rfl) | (rw [if_neg (by decide +kernel)]; exact ⟨rfl, rfl⟩))
    (fun os started H enc _ => md4Sums_lifted os started H enc)

theorem md4Sums_proved : Rows.Md4SumsSaid := md4Sums_over
#print axioms md4Sums_proved
end Go.Proofs.Ytgjengcmopgngab
