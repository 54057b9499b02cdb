/-
  Any options: their bytes, or that they may not be; any bytes: the options, or what is wrong; whether two lists are the same. For every input.
-/
import Derived.Test.YtififgodhnelgaaP9
namespace Go.Proofs.Ytififgodhnelgaa
open Go V Go.ChangeShapes Go.WideShapes Go.ChangeAt Go.RowKit

theorem optsP_len (os : List Opt) : (optsP os).1.length ≤ 10000 := by
  unfold optsP
  split
  · simp
  · split
    · rename_i h1 h2
      have := encOs_len os h2
      show (encOs os).length ≤ _
      omega
    · simp

theorem packetOptions_ok (W : World) (A : Option Addr) (n c : Nat) (ca : List Value) (oa : List Opt) (ha : Sl W 2 A n ca) (hoa : Ops W (fun k => k < W.heap.size) ca oa) (_ : n ≤ c) (_ : c ≤ 9223372036854775807) (_ : ∀ o ∈ oa, o.data.length ≤ 9223372036854775807)
    (B : Option Addr) (m d : Nat) (cb : List Value) (ob : List Opt) (hb : Sl W 2 B m cb) (hob : Ops W (fun k => k < W.heap.size) cb ob) (_ : m ≤ d) (_ : d ≤ 9223372036854775807) (_ : ∀ o ∈ ob, o.data.length ≤ 9223372036854775807)
    (C : Option Addr) (k e : Nat) (l : List UInt8) (hr : Sl W 1 C k (l.map vb)) (hke : k ≤ e) (_ : e ≤ 9223372036854775807) (_ : ∀ a, C = some a → 0 < k → a.block < W.heap.size) :
    VC Try.prog 6 [.slice A n c, .slice B m d, .slice C k e] W (fun v w' => v = .bool true ∧ Keep No W w') := by
  have hla := hoa.len ha
  have hlb := hob.len hb
  refine VC.of tt_ok Try.func6 rfl (by decide +kernel) (Nat.le_of_ble_eq_true rfl) ?_; (conv => whnf)
  refine (awake_ok W).mono ?_
  rintro v w1 ⟨rfl, kp⟩
  (conv => whnf)
  refine (small_ok w1 (ha.keepNo kp) (hoa.keepNo kp)).mono ?_
  rintro v w' ⟨rfl, rfl⟩
  by_cases hsa : smallO oa
  case neg =>
    rw [decide_eq_false hsa]
    (conv => whnf)
    exact ⟨rfl, kp⟩
  rw [decide_eq_true hsa]
  (conv => whnf)
  refine (small_ok w1 (hb.keepNo kp) (hob.keepNo kp)).mono ?_
  rintro v w' ⟨rfl, rfl⟩
  by_cases hsb : smallO ob
  case neg =>
    rw [decide_eq_false hsb]
    (conv => whnf)
    exact ⟨rfl, kp⟩
  rw [decide_eq_true hsb]
  (conv => whnf)
  have hn60 := hsa.1
  have hm60 := hsb.1
  refine VCmp.mk (fun h => ?_) (fun h => ?_) <;> (conv => whnf)
  · exact ⟨rfl, kp⟩
  refine (options_ok w1 (ha.keepNo kp) (hoa.keepNo kp) (by omega)).mono ?_
  rintro v w2 ⟨⟨A2, c2, rfl, ho2⟩, hk2⟩
  have kp := kp.keepNo hk2
  (conv => whnf)
  refine (refOptions_ok w2 (ha.keepNo kp) (hoa.keepNo kp) (by omega)).mono ?_
  rintro v w3 ⟨⟨A3, c3, rfl, ho3⟩, hk3⟩
  have kp := kp.keepNo hk3; have ho2 := ho2.keepNo hk3
  (conv => whnf)
  refine (Split_ok w3 (hr.keepNo kp) (by omega) hke).mono ?_
  rintro v w4 ⟨⟨A4, n4, c4, ce4, rfl, hs4, hp4, _⟩, hk4⟩
  have kp := kp.keepNo hk4; have ho2 := ho2.keepNo hk4; have ho3 := ho3.keepNo hk4
  (conv => whnf)
  refine (refSplit_ok w4 (hr.keepNo kp) (by omega) hke).mono ?_
  rintro v w5 ⟨⟨A5, n5, c5, ce5, rfl, hs5, hp5, _⟩, hk5⟩
  have kp := kp.keepNo hk5; have ho2 := ho2.keepNo hk5; have ho3 := ho3.keepNo hk5; have hs4 := hs4.keepNo hk5; have hp4 := hp4.keepNo hk5
  (conv => whnf)
  refine VCmp.mk (fun _ => ?_) (fun h => absurd rfl h); (conv => whnf)
  have hol := optsP_len oa
  refine (same_ok w5 (Sl.ofOwn ho2) (Sl.ofOwn ho3) (by omega)).mono ?_
  rintro v w6 ⟨rfl, hk6⟩
  have kp := kp.keepNo hk6; have hs4 := hs4.keepNo hk6; have hp4 := hp4.keepNo hk6; have hs5 := hs5.keepNo hk6; have hp5 := hp5.keepNo hk6
  rw [decide_eq_true rfl]
  (conv => whnf)
  refine VCmp.mk (fun _ => ?_) (fun h => absurd rfl h); (conv => whnf)
  have hlk : l.length = k := by simpa using hr.len
  have hsl := splitP_len l
  have hl4 := hp4.len hs4
  refine (rSame_ok w6 hs4 hp4 hs5 hp5 (by omega) (fun o ho => by have := hsl.2 o ho; omega)).mono ?_
  rintro v w7 ⟨rfl, hk7⟩
  have kp := kp.keepNo hk7
  rw [decide_eq_true rfl]
  (conv => whnf)
  refine (pSame_ok w7 (ha.keepNo kp) (hoa.keepNo kp) (hb.keepNo kp) (hob.keepNo kp) (by omega)).mono ?_
  rintro v w8 ⟨rfl, hk8⟩
  have kp := kp.keepNo hk8
  (conv => whnf)
  refine (rSame_ok w8 (ha.keepNo kp) (hoa.keepNo kp) (hb.keepNo kp) (hob.keepNo kp) (by omega) (fun o ho => by have := hsa.2 o ho; omega)).mono ?_
  rintro v w9 ⟨rfl, hk9⟩
  have kp := kp.keepNo hk9
  (conv => whnf)
  rw [show (decide (oa = ob) == decide (oa = ob)) = true from by simp]
  (conv => whnf)
  refine (pSame_ok w9 (ha.keepNo kp) (hoa.keepNo kp) (ha.keepNo kp) (hoa.keepNo kp) (by omega)).mono ?_
  rintro v w10 ⟨rfl, hk10⟩
  rw [decide_eq_true rfl]
  (conv => whnf)
  exact ⟨rfl, kp.trans hk10⟩

/-! ### The statement -/
theorem packetOptions_own : ownKnob Try.prog.godebug = none := by kernel_rfl
theorem packetOptions_laid : laidOutB Try.prog = true := by kernel_rfl
set_option maxRecDepth 100000 in
theorem packetOptions_lifted (os : Os) (started : os.Started) (H : Type) (enc : TypeId × Value → H) :
    ReturnsInHanded {} Try.checked os 6 .any (Rows.packetOptionsSpec.pre6 enc Try.prog Try.f6 Rows.packetOptionsRow.domain false) (Rows.packetOptionsSpec.post enc Try.prog Try.f6 false true false false) := by
  refine returnsInHanded_of_change (C := Try.checked) packetOptions_own started (by kernel_rfl) Try.func6
    (ChangeSpec.witness6 (enc := enc) (C := Try.checked) false ⟨#[], #[.slice none 0 0, .slice none 0 0, .slice none 0 0], []⟩ 8 (by kernel_rfl) (by kernel_rfl) (by kernel_rfl) (by kernel_rfl)) ?_
  intro W base args ds gs before hval0 hW hcnd _
  have hval : ∀ (j : Nat) t v, Try.f6.params[j]? = some t → args[j]? = some v → Value.okWide Try.prog W .any base t v := hval0
  have hW' := hW
  obtain ⟨p, q, hA0, hV, rfl, hfz, hnd⟩ := hW
  have hA : DataW.TrodAll enc Try.prog W 0 (fun _ => true) true Try.f6.params.toList args.toList ds p := hA0
  rw [Try.params6] at hA hval
  obtain ⟨v0, vs0, d0, ds0, p0, q0, hargs, rfl, rfl, h0, r0⟩ := trodAll_cons hA
  obtain ⟨v1, vs1, d1, ds1, p1, q1, rfl, rfl, rfl, h1, r1⟩ := trodAll_cons r0
  obtain ⟨v2, vs2, d2, ds2, p2, q2, rfl, rfl, rfl, h2, r2⟩ := trodAll_cons r1
  obtain ⟨rfl, rfl, rfl⟩ := trodAll_nil r2
  obtain rfl : args = #[v0, v1, v2] := by cases args; simp_all
  obtain ⟨rfl, rfl⟩ := trodVars_none hV
  have k0 := h0
  have lt0 : ∀ x ∈ p0, x.block < W.heap.size := by obtain ⟨m, hm⟩ := k0; exact DataW.trod_lt m _ _ _ hm
  obtain ⟨aa0, la0, ca0, rfl⟩ := okWide_slice Try.underlying38 (hval 0 38 v0 rfl rfl)
  obtain ⟨fuel0, hf0⟩ := h0
  obtain ⟨A0, n0, c0, va0, l0, e0, s0, el0, nc0, cc0, fl0⟩ := open_opts hf0
  cases e0
  have k1 := h1
  have lt1 : ∀ x ∈ p1, x.block < W.heap.size := by obtain ⟨m, hm⟩ := k1; exact DataW.trod_lt m _ _ _ hm
  obtain ⟨aa1, la1, ca1, rfl⟩ := okWide_slice Try.underlying38 (hval 1 38 v1 rfl rfl)
  obtain ⟨fuel1, hf1⟩ := h1
  obtain ⟨A1, n1, c1, va1, l1, e1, s1, el1, nc1, cc1, fl1⟩ := open_opts hf1
  cases e1
  have k2 := h2
  have lt2 : ∀ x ∈ p2, x.block < W.heap.size := by obtain ⟨m, hm⟩ := k2; exact DataW.trod_lt m _ _ _ hm
  obtain ⟨aa2, la2, ca2, rfl⟩ := okWide_slice Try.underlying22 (hval 2 22 v2 rfl rfl)
  obtain ⟨fuel2, hf2⟩ := h2
  obtain ⟨A2, n2, c2, l2, e2, s2, ln2, nc2, cc2, b2⟩ := open_bytes Try.underlying22 Try.underlying5 (by kernel_rfl) hf2
  cases e2
  clear hA0 hval0
  refine (VC.law (packetOptions_ok W aa0 la0 ca0 va0 l0 s0 el0 nc0 cc0 fl0 aa1 la1 ca1 va1 l1 s1 el1 nc1 cc1 fl1 aa2 la2 ca2 l2 s2 nc2 cc2 b2)).mono fun e W' ⟨he, bel⟩ => ?_
  subst he
  exact ⟨_, rfl, _, _, _, [], _, [], hW', trodAll_mk1 (shut_bool Try.underlying4 _), (trodAll_cons_mk (Below.trod packetOptions_laid (by kernel_rfl) (of_decide_eq_true (by kernel_rfl)) k0 bel lt0) (trodAll_cons_mk (Below.trod packetOptions_laid (by kernel_rfl) (of_decide_eq_true (by kernel_rfl)) k1 bel lt1) (trodAll_cons_mk (Below.trod packetOptions_laid (by kernel_rfl) (of_decide_eq_true (by kernel_rfl)) k2 bel lt2) trodAll_mk0))), rfl, bel.frame _, fun h => by cases h⟩

theorem packetOptions_over : Rows.packetOptionsRow.holds Try.pinned (OpenSpec.ofChange Rows.packetOptionsSpec) :=
  OpenClaim.holds_of_wide 6 Try.f6 rfl rfl rfl rfl rfl rfl rfl ⟨rfl, rfl, rfl, rfl, rfl⟩ rfl rfl rfl rfl rfl (by kernel_rfl) Try.func6 (by kernel_rfl)
    (of_decide_eq_true (by kernel_rfl)) (by unfold Func.isWrapper; first | (rw [if_pos (by decide +kernel)]; kernel_rfl) | (rw [if_neg (by decide +kernel)]; exact ⟨rfl, rfl⟩))
    (fun os started H enc _ => packetOptions_lifted os started H enc)

theorem packetOptions_proved : Rows.PacketOptionsSaid := packetOptions_over
#print axioms packetOptions_proved
end Go.Proofs.Ytififgodhnelgaa
