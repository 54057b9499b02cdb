/-
  DES: any key, any block: the block that comes out, or that they may not be.
-/
import Derived.Test.YtififgodhnelgaaD14
import Derived.Test.YtififgodhnelgaaD10
import Derived.Test.YtififgodhnelgaaVl
import Derived.Test.YtififgodhnelgaaRows
namespace Go.Proofs.Ytififgodhnelgaa
open Go V Go.ChangeShapes Go.WideShapes Go.ChangeAt Go.RowKit

theorem desBlocks_ok (W : World) (A : Option Addr) (n c : Nat) (l : List UInt8) (hs : Sl W 1 A n (l.map vb)) (_ : n ≤ c) (_ : c ≤ 9223372036854775807) (_ : ∀ a, A = some a → 0 < n → a.block < W.heap.size)
    (B : Option Addr) (m d : Nat) (r : List UInt8) (hx : Sl W 1 B m (r.map vb)) (_ : m ≤ d) (_ : d ≤ 9223372036854775807) (_ : ∀ a, B = some a → 0 < m → a.block < W.heap.size) :
    VC Try.prog 9 [.slice A n c, .slice B m d] W (fun v w' => v = .bool true ∧ Keep No W w') := by
  refine VC.of tt_ok Try.func9 rfl (by decide +kernel) (Nat.le_of_ble_eq_true rfl) ?_; (conv => whnf)
  refine (awake8_ok W).mono ?_
  rintro v w1 ⟨rfl, kp⟩
  have hs := hs.keepNo kp; have hx := hx.keepNo kp
  (conv => whnf)
  refine VCmp.mk (fun h => ?_) (fun h => ?_) <;> (conv => whnf)
  · exact ⟨rfl, kp⟩
  refine VCmp.mk (fun h2 => ?_) (fun h2 => ?_) <;> (conv => whnf)
  · exact ⟨rfl, kp⟩
  refine (encrypt_ok w1 hs hx (by omega) (by omega)).mono ?_
  rintro v w2 ⟨hv, k2⟩
  have kp := kp.keepNo k2; have hs := hs.keepNo k2; have hx := hx.keepNo k2
  by_cases hc : n = 7 ∧ m = 8
  · rw [if_pos hc] at hv
    obtain ⟨q, rfl, hq⟩ := hv
    (conv => whnf)
    refine (refDes_ok w2 hs hx (by omega) (by omega)).mono ?_
    rintro v w3 ⟨hv, k3⟩
    rw [if_pos hc] at hv
    obtain ⟨A3, c3, rfl, hs3⟩ := hv
    have kp := kp.keepNo k3; have hq := hq.keepNo k3
    (conv => whnf)
    refine VCmp.mk (fun _ => ?_) (fun h => absurd rfl h); (conv => whnf)
    refine (same_ok w3 (Sl.ofBlk (n := 8) (size := 1) hq (by rw [List.length_map, desP_len])) hs3 (by decide)).mono ?_
    rintro v w4 ⟨rfl, k4⟩
    rw [decide_eq_true rfl]
    (conv => whnf)
    exact ⟨rfl, kp.trans k4⟩
  · rw [if_neg hc] at hv
    subst hv
    (conv => whnf)
    refine (refDes_ok w2 hs hx (by omega) (by omega)).mono ?_
    rintro v w3 ⟨hv, k3⟩
    rw [if_neg hc] at hv
    subst hv
    have kp := kp.keepNo k3
    (conv => whnf)
    refine VCmp.mk (fun _ => ?_) (fun h => absurd rfl h); (conv => whnf)
    refine (same_ok w3 (l := []) (r := []) Sl.nil Sl.nil (by decide)).mono ?_
    rintro v w4 ⟨rfl, k4⟩
    rw [decide_eq_true rfl]
    (conv => whnf)
    exact ⟨rfl, kp.trans k4⟩

/-! ### The statement -/
theorem desBlocks_own : ownKnob Try.prog.godebug = none := by kernel_rfl
theorem desBlocks_laid : laidOutB Try.prog = true := by kernel_rfl
set_option maxRecDepth 100000 in
theorem desBlocks_lifted (os : Os) (started : os.Started) (H : Type) (enc : TypeId × Value → H) :
    ReturnsInHanded {} Try.checked os 9 .any (Rows.desBlocksSpec.pre6 enc Try.prog Try.f9 Rows.desBlocksRow.domain false) (Rows.desBlocksSpec.post enc Try.prog Try.f9 false true false false) := by
  refine returnsInHanded_of_change (C := Try.checked) desBlocks_own started (by kernel_rfl) Try.func9
    (ChangeSpec.witness6 (enc := enc) (C := Try.checked) false ⟨#[], #[.slice none 0 0, .slice none 0 0], []⟩ 8 (by kernel_rfl) (by kernel_rfl) (by kernel_rfl) (by kernel_rfl)) ?_
  intro W base args ds gs before hval0 hW hcnd _
  have hval : ∀ (j : Nat) t v, Try.f9.params[j]? = some t → args[j]? = some v → Value.okWide Try.prog W .any base t v := hval0
  have hW' := hW
  obtain ⟨p, q, hA0, hV, rfl, hfz, hnd⟩ := hW
  have hA : DataW.TrodAll enc Try.prog W 0 (fun _ => true) true Try.f9.params.toList args.toList ds p := hA0
  rw [Try.params9] at hA hval
  obtain ⟨v0, vs0, d0, ds0, p0, q0, hargs, rfl, rfl, h0, r0⟩ := trodAll_cons hA
  obtain ⟨v1, vs1, d1, ds1, p1, q1, rfl, rfl, rfl, h1, r1⟩ := trodAll_cons r0
  obtain ⟨rfl, rfl, rfl⟩ := trodAll_nil r1
  obtain rfl : args = #[v0, v1] := by cases args; simp_all
  obtain ⟨rfl, rfl⟩ := trodVars_none hV
  have k0 := h0
  have lt0 : ∀ x ∈ p0, x.block < W.heap.size := by obtain ⟨m, hm⟩ := k0; exact DataW.trod_lt m _ _ _ hm
  obtain ⟨aa0, la0, ca0, rfl⟩ := okWide_slice Try.underlying22 (hval 0 22 v0 rfl rfl)
  obtain ⟨fuel0, hf0⟩ := h0
  obtain ⟨A0, n0, c0, l0, e0, s0, ln0, nc0, cc0, b0⟩ := open_bytes Try.underlying22 Try.underlying5 (by kernel_rfl) hf0
  cases e0
  have k1 := h1
  have lt1 : ∀ x ∈ p1, x.block < W.heap.size := by obtain ⟨m, hm⟩ := k1; exact DataW.trod_lt m _ _ _ hm
  obtain ⟨aa1, la1, ca1, rfl⟩ := okWide_slice Try.underlying22 (hval 1 22 v1 rfl rfl)
  obtain ⟨fuel1, hf1⟩ := h1
  obtain ⟨A1, n1, c1, l1, e1, s1, ln1, nc1, cc1, b1⟩ := open_bytes Try.underlying22 Try.underlying5 (by kernel_rfl) hf1
  cases e1
  clear hA0 hval0
  refine (VC.law (desBlocks_ok W aa0 la0 ca0 l0 s0 nc0 cc0 b0 aa1 la1 ca1 l1 s1 nc1 cc1 b1)).mono fun e W' ⟨he, bel⟩ => ?_
  subst he
  exact ⟨_, rfl, _, _, _, [], _, [], hW', trodAll_mk1 (shut_bool Try.underlying4 _), (trodAll_cons_mk (Below.trod desBlocks_laid (by kernel_rfl) (of_decide_eq_true (by kernel_rfl)) k0 bel lt0) (trodAll_cons_mk (Below.trod desBlocks_laid (by kernel_rfl) (of_decide_eq_true (by kernel_rfl)) k1 bel lt1) trodAll_mk0)), rfl, bel.frame _, fun h => by cases h⟩

theorem desBlocks_over : Rows.desBlocksRow.holds Try.pinned (OpenSpec.ofChange Rows.desBlocksSpec) :=
  OpenClaim.holds_of_wide 9 Try.f9 rfl rfl rfl rfl rfl rfl rfl ⟨rfl, rfl, rfl, rfl, rfl⟩ rfl rfl rfl rfl rfl (by kernel_rfl) Try.func9 (by kernel_rfl)
    (of_decide_eq_true (by kernel_rfl)) (by unfold Func.isWrapper; first | (rw [if_pos (by decide +kernel)]; kernel_rfl) | (rw [if_neg (by decide +kernel)]; exact ⟨rfl, rfl⟩))
    (fun os started H enc _ => desBlocks_lifted os started H enc)

theorem desBlocks_proved : Rows.DesBlocksSaid := desBlocks_over
#print axioms desBlocks_proved
end Go.Proofs.Ytififgodhnelgaa
