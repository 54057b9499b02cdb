/-
  Of two rows of options, one behind the other, the options are those of the one, then those of the other. For every input.
-/
import Derived.Test.YtififgodhnelgaaP10
namespace Go.Proofs.Ytififgodhnelgaa
open Go V Go.ChangeShapes Go.WideShapes Go.ChangeAt Go.RowKit

theorem optsP_zero {os : List Opt} (h : (optsP os).2 = 0) : (∀ o ∈ os, o.good) ∧ os.length ≤ 32 ∧ (optsP os).1 = encOs os := by
  unfold optsP at h ⊢
  split at h
  · cases h
  · rename_i h1
    split at h
    · rename_i h2
      rw [if_neg h1, if_pos h2]
      exact ⟨h2, by omega, rfl⟩
    · cases h

theorem packetJoins_ok (W : World) (A : Option Addr) (n c : Nat) (ca : List Value) (oa : List Opt) (ha : Sl W 2 A n ca) (hoa : Ops W (fun k => k < W.heap.size) ca oa) (_ : n ≤ c) (_ : c ≤ 9223372036854775807) (_ : ∀ o ∈ oa, o.data.length ≤ 9223372036854775807)
    (B : Option Addr) (m d : Nat) (cb : List Value) (ob : List Opt) (hb : Sl W 2 B m cb) (hob : Ops W (fun k => k < W.heap.size) cb ob) (_ : m ≤ d) (_ : d ≤ 9223372036854775807) (_ : ∀ o ∈ ob, o.data.length ≤ 9223372036854775807) :
    VC Try.prog 7 [.slice A n c, .slice B m d] W (fun v w' => v = .bool true ∧ Keep No W w') := by
  have hla := hoa.len ha
  have hlb := hob.len hb
  refine VC.of tt_ok Try.func7 rfl (by decide +kernel) (Nat.le_of_ble_eq_true rfl) ?_; (conv => whnf)
  refine (awake_ok W).mono ?_
  rintro v w1 ⟨rfl, kp⟩
  (conv => whnf)
  refine (small_ok w1 (ha.keepNo kp) (hoa.keepNo kp)).mono ?_
  rintro v w' ⟨rfl, rfl⟩
  by_cases hsa : smallO oa
  case neg =>
    rw [decide_eq_false hsa]
    (conv => whnf)
    exact ⟨rfl, kp⟩
  rw [decide_eq_true hsa]
  (conv => whnf)
  refine (small_ok w1 (hb.keepNo kp) (hob.keepNo kp)).mono ?_
  rintro v w' ⟨rfl, rfl⟩
  by_cases hsb : smallO ob
  case neg =>
    rw [decide_eq_false hsb]
    (conv => whnf)
    exact ⟨rfl, kp⟩
  rw [decide_eq_true hsb]
  (conv => whnf)
  have hn60 := hsa.1
  have hm60 := hsb.1
  refine VRes.i64 (by omega) ?_; (conv => whnf)
  refine VCmp.mk (fun h => ?_) (fun h => ?_) <;> (conv => whnf)
  · exact ⟨rfl, kp⟩
  refine (options_ok w1 (ha.keepNo kp) (hoa.keepNo kp) (by omega)).mono ?_
  rintro v w2 ⟨⟨A2, c2, rfl, ho2⟩, hk2⟩
  have kp := kp.keepNo hk2
  (conv => whnf)
  refine (options_ok w2 (hb.keepNo kp) (hob.keepNo kp) (by omega)).mono ?_
  rintro v w3 ⟨⟨A3, c3, rfl, ho3⟩, hk3⟩
  have kp := kp.keepNo hk3; have ho2 := ho2.keepNo hk3
  (conv => whnf)
  refine VCmp.mk (fun h1 => ?_) (fun h1 => ?_) <;> (conv => whnf)
  · exact ⟨rfl, kp⟩
  refine VCmp.mk (fun h2 => ?_) (fun h2 => ?_) <;> (conv => whnf)
  · exact ⟨rfl, kp⟩
  obtain ⟨ga, la, ea⟩ := optsP_zero (os := oa) (by omega)
  obtain ⟨gb, lb, eb⟩ := optsP_zero (os := ob) (by omega)
  have hol := optsP_len oa
  have hol2 := optsP_len ob
  have hsp : splitP ((optsP oa).1 ++ (optsP ob).1) = (oa ++ ob, 0) := by
    rw [ea, eb, ← encOs_append]
    exact splitP_enc _ (fun o ho => (List.mem_append.1 ho).elim (ga o) (gb o)) (by rw [List.length_append]; omega)
  refine (copy_ok w3 (Sl.ofOwn ho2) (by omega)).mono ?_
  rintro v w4 ⟨A4, c4, rfl, ho4, hk4⟩
  (conv => whnf)
  refine app8 (w0 := w3) hk4 ho4 ((Sl.ofOwn ho3).keepNo hk4) (by omega) ?_
  intro A5 c5 w5 ho5 hk5 hkA _
  have kp := kp.keepNo hk5; have ho2 := ho2.keepNo hk5; have ho3 := ho3.keepNo hk5
  (conv => whnf)
  refine (Split_ok w5 (Sl.ofOwn ho5) (by omega) ho5.le).mono ?_
  rintro v w6 ⟨⟨A6, n6, c6, ce6, rfl, hs6, hp6, _⟩, hk6⟩
  have kp := kp.keepNo hk6; have ho2 := ho2.keepNo hk6; have ho3 := ho3.keepNo hk6
  (conv => whnf)
  refine VCmp.mk (fun _ => ?_) (fun h => absurd (by rw [hsp]) h)
  rw [hsp] at hp6
  (conv => whnf)
  refine VFill.by_ rfl ?_; (conv => whnf)
  refine ⟨fun w7 hb7 hk7 => ?_⟩; have hb7_lt := Blk.lt hb7; have hk7_sz := hk7.size; (conv => whnf)
  refine appOp (w0 := w6) hk7 (Own.new (n := 0) hb7 (Nat.le_refl _) rfl (by unfold maxLen; omega)) ((ha.keepNo kp).keepNo hk7) hoa.cells1 (by omega) ?_
  intro A8 c8 w8 ho8 hk8 _
  (conv => whnf)
  refine appOp (w0 := w6) hk8 ho8 ((hb.keepNo kp).keepNo hk8) hob.cells1 (by omega) ?_
  intro A9 c9 w9 ho9 hk9 _
  have kp6 := kp
  have kp := kp.keepNo hk9; have ho2 := ho2.keepNo hk9; have ho3 := ho3.keepNo hk9; have hs6 := hs6.keepNo hk9; have hp6 := hp6.keepNo hk9
  (conv => whnf)
  have hjo : Ops w9 (fun _ => True) (ca ++ cb) (oa ++ ob) := Ops.append ((hoa.keepNo kp).mono (fun _ _ => trivial)) ((hob.keepNo kp).mono (fun _ _ => trivial))
  have hj9 : Sl w9 2 A9 (0 + n + m) (ca ++ cb) := Sl.ofOwn ho9
  have h6 := hp6.len hs6
  rw [List.length_append] at h6
  refine (pSame_ok w9 hs6 hp6 hj9 hjo (by omega)).mono ?_
  rintro v w10 ⟨rfl, hk10⟩
  rw [decide_eq_true rfl]
  have kp := kp.keepNo hk10; have ho2 := ho2.keepNo hk10; have ho3 := ho3.keepNo hk10
  (conv => whnf)
  refine (pSame_ok w10 (ha.keepNo kp) (hoa.keepNo kp) (hb.keepNo kp) (hob.keepNo kp) (by omega)).mono ?_
  rintro v w11 ⟨rfl, hk11⟩
  have kp := kp.keepNo hk11; have ho2 := ho2.keepNo hk11; have ho3 := ho3.keepNo hk11
  (conv => whnf)
  refine (same_ok w11 (Sl.ofOwn ho2) (Sl.ofOwn ho3) (by omega)).mono ?_
  rintro v w12 ⟨rfl, hk12⟩
  have kp := kp.keepNo hk12
  (conv => whnf)
  have hq : decide (oa = ob) = decide ((optsP oa).1 = (optsP ob).1) := decide_eq_decide.2 ⟨fun e => by rw [e], fun e => encOs_inj ga gb la lb (by rw [← ea, ← eb]; exact e)⟩
  rw [← hq, show (decide (oa = ob) == decide (oa = ob)) = true from by simp]
  (conv => whnf)
  exact ⟨rfl, kp⟩

/-! ### The statement -/
theorem packetJoins_own : ownKnob Try.prog.godebug = none := by kernel_rfl
theorem packetJoins_laid : laidOutB Try.prog = true := by kernel_rfl
set_option maxRecDepth 100000 in
theorem packetJoins_lifted (os : Os) (started : os.Started) (H : Type) (enc : TypeId × Value → H) :
    ReturnsInHanded {} Try.checked os 7 .any (Rows.packetJoinsSpec.pre6 enc Try.prog Try.f7 Rows.packetJoinsRow.domain false) (Rows.packetJoinsSpec.post enc Try.prog Try.f7 false true false false) := by
  refine returnsInHanded_of_change (C := Try.checked) packetJoins_own started (by kernel_rfl) Try.func7
    (ChangeSpec.witness6 (enc := enc) (C := Try.checked) false ⟨#[], #[.slice none 0 0, .slice none 0 0], []⟩ 8 (by kernel_rfl) (by kernel_rfl) (by kernel_rfl) (by kernel_rfl)) ?_
  intro W base args ds gs before hval0 hW hcnd _
  have hval : ∀ (j : Nat) t v, Try.f7.params[j]? = some t → args[j]? = some v → Value.okWide Try.prog W .any base t v := hval0
  have hW' := hW
  obtain ⟨p, q, hA0, hV, rfl, hfz, hnd⟩ := hW
  have hA : DataW.TrodAll enc Try.prog W 0 (fun _ => true) true Try.f7.params.toList args.toList ds p := hA0
  rw [Try.params7] at hA hval
  obtain ⟨v0, vs0, d0, ds0, p0, q0, hargs, rfl, rfl, h0, r0⟩ := trodAll_cons hA
  obtain ⟨v1, vs1, d1, ds1, p1, q1, rfl, rfl, rfl, h1, r1⟩ := trodAll_cons r0
  obtain ⟨rfl, rfl, rfl⟩ := trodAll_nil r1
  obtain rfl : args = #[v0, v1] := by cases args; simp_all
  obtain ⟨rfl, rfl⟩ := trodVars_none hV
  have k0 := h0
  have lt0 : ∀ x ∈ p0, x.block < W.heap.size := by obtain ⟨m, hm⟩ := k0; exact DataW.trod_lt m _ _ _ hm
  obtain ⟨aa0, la0, ca0, rfl⟩ := okWide_slice Try.underlying38 (hval 0 38 v0 rfl rfl)
  obtain ⟨fuel0, hf0⟩ := h0
  obtain ⟨A0, n0, c0, va0, l0, e0, s0, el0, nc0, cc0, fl0⟩ := open_opts hf0
  cases e0
  have k1 := h1
  have lt1 : ∀ x ∈ p1, x.block < W.heap.size := by obtain ⟨m, hm⟩ := k1; exact DataW.trod_lt m _ _ _ hm
  obtain ⟨aa1, la1, ca1, rfl⟩ := okWide_slice Try.underlying38 (hval 1 38 v1 rfl rfl)
  obtain ⟨fuel1, hf1⟩ := h1
  obtain ⟨A1, n1, c1, va1, l1, e1, s1, el1, nc1, cc1, fl1⟩ := open_opts hf1
  cases e1
  clear hA0 hval0
  refine (VC.law (packetJoins_ok W aa0 la0 ca0 va0 l0 s0 el0 nc0 cc0 fl0 aa1 la1 ca1 va1 l1 s1 el1 nc1 cc1 fl1)).mono fun e W' ⟨he, bel⟩ => ?_
  subst he
  exact ⟨_, rfl, _, _, _, [], _, [], hW', trodAll_mk1 (shut_bool Try.underlying4 _), (trodAll_cons_mk (Below.trod packetJoins_laid (by kernel_rfl) (of_decide_eq_true (by kernel_rfl)) k0 bel lt0) (trodAll_cons_mk (Below.trod packetJoins_laid (by kernel_rfl) (of_decide_eq_true (by kernel_rfl)) k1 bel lt1) trodAll_mk0)), rfl, bel.frame _, fun h => by cases h⟩

theorem packetJoins_over : Rows.packetJoinsRow.holds Try.pinned (OpenSpec.ofChange Rows.packetJoinsSpec) :=
  OpenClaim.holds_of_wide 7 Try.f7 rfl rfl rfl rfl rfl rfl rfl ⟨rfl, rfl, rfl, rfl, rfl⟩ rfl rfl rfl rfl rfl (by kernel_rfl) Try.func7 (by kernel_rfl)
    (of_decide_eq_true (by kernel_rfl)) (by unfold Func.isWrapper; first | (rw [if_pos (by decide +kernel)]; kernel_rfl) | (rw [if_neg (by decide +kernel)]; exact ⟨rfl, rfl⟩))
    (fun os started H enc _ => packetJoins_lifted os started H enc)

theorem packetJoins_proved : Rows.PacketJoinsSaid := packetJoins_over
#print axioms packetJoins_proved
end Go.Proofs.Ytififgodhnelgaa
