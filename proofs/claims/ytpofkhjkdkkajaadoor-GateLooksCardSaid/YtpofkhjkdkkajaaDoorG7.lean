/-
  Gate: any bytes: what a stranger sees in them, for every input. With the statement.
-/
import Derived.Test.YtpofkhjkdkkajaaDoorG5
import Derived.Test.YtpofkhjkdkkajaaDoorG6
import Derived.Test.YtpofkhjkdkkajaaDoorVl
namespace Go.Proofs.YtpofkhjkdkkajaaDoor
open Go V Go.ChangeShapes Go.WideShapes Go.ChangeAt Go.RowKit
open Pk (decodeP splitP PkV OpsN Ops)

theorem lookP_len (l : List UInt8) : (lookP l).1.length ≤ l.length := by
  have h1 := snsOf_le (df0.feed l).2
  have h2 := Df.feed_len df0 l
  exact Nat.le_trans h1 h2

theorem gateLooks_ok (W : World) (hg : EtOk W) (A : Option Addr) (n c : Nat) (l : List UInt8) (hs : Sl W 1 A n (l.map vb)) (hnc : n ≤ c) (_ : c ≤ 9223372036854775807) (_ : ∀ a, A = some a → 0 < n → a.block < W.heap.size) (p : Int) (_ : -9223372036854775808 ≤ p ∧ p ≤ 9223372036854775807) :
    VC Tryd.prog 5 [.slice A n c, .int .i64 p] W (fun v w' => v = .bool true ∧ Keep No W w') := by
  have hl : l.length = n := by simpa using hs.len
  refine VC.of tt_ok Tryd.func5 rfl (by decide +kernel) (Nat.le_of_ble_eq_true rfl) ?_; (conv => whnf)
  refine (awake26_ok W hg).mono ?_
  rintro v w1 ⟨rfl, kp⟩
  (conv => whnf)
  refine VCmp.mk (fun h => ?_) (fun h => ?_) <;> (conv => whnf)
  · exact ⟨rfl, kp⟩
  refine (Look_ok w1 (hg.keepNo kp) (hs.keepNo kp) (by omega)).mono ?_
  rintro v w2 ⟨⟨A2, n2, c2, cells2, rfl, hs2, ho2, hc2⟩, hk2⟩
  have kp := kp.keepNo hk2
  (conv => whnf)
  refine (refLook_ok w2 (hs.keepNo kp) (by omega)).mono ?_
  rintro v w3 ⟨⟨A3, n3, c3, cells3, rfl, hs3, ho3, hc3⟩, hk3⟩
  have kp := kp.keepNo hk3; have hs2 := hs2.keepNo hk3; have ho2 := ho2.keepNo hk3
  have hll := lookP_len l
  have hl2 := ho2.len hs2
  have hl3 := ho3.len hs3
  obtain ⟨ss, hss⟩ : ∃ ss, ss = (lookP l).1 := ⟨_, rfl⟩
  obtain ⟨q, hq⟩ : ∃ q, q = (lookP l).2 := ⟨_, rfl⟩
  have hks : ∀ s ∈ ss, s.kinds.length ≤ 1000000 := by rw [hss]; exact look_kinds _
  rw [← hss] at hl2 hl3 hll ho2 ho3
  rw [← hq]
  (conv => whnf)
  refine VLoop.by_ tt_ok (S := Nat) (fun k => [(1, .int .i64 p), (5, .slice A2 n2 c2), (6, .int .i64 q), (7, .slice A3 n3 c3), (8, .int .i64 q), (9, .int .i64 (countN p (ss.take k) : Nat)), (10, .int .i64 k)]) (fun k w' => k ≤ n3 ∧ Keep No w3 w') (fun k => n3 - k) 0
    ⟨rfl, rfl, rfl, rfl, rfl, rfl, rfl, trivial⟩ ⟨by omega, Keep.refl _ _⟩ ?_
  rintro k w' ⟨hk, kk⟩
  have hcl := countN_le p (ss.take k)
  have htk : (ss.take k).length ≤ ss.length := by rw [List.length_take]; omega
  (conv => whnf)
  refine VCmp.mk (fun h => ?_) (fun h => ?_) <;> (conv => whnf)
  rotate_left 1
  · rw [List.take_of_length_le (by omega)]
    have kp := kp.keepNo kk; have hs2 := hs2.keepNo kk; have ho2 := ho2.keepNo kk; have hs3 := hs3.keepNo kk; have ho3 := ho3.keepNo kk
    refine (same26_ok w' hs2 ho2 hs3 ho3 (by omega) hks).mono ?_
    rintro v w4 ⟨rfl, hk4⟩
    have kp := kp.keepNo hk4; have hs2 := hs2.keepNo hk4; have ho2 := ho2.keepNo hk4; have hs3 := hs3.keepNo hk4; have ho3 := ho3.keepNo hk4
    (conv => whnf)
    refine VCmp.mk (fun _ => ?_) (fun h => absurd rfl h); (conv => whnf)
    refine (Clean_ok w4 hs2 ho2 (by omega)).mono ?_
    rintro v w5 ⟨rfl, hk5⟩
    have kp := kp.keepNo hk5; have hs2 := hs2.keepNo hk5; have ho2 := ho2.keepNo hk5; have hs3 := hs3.keepNo hk5; have ho3 := ho3.keepNo hk5
    (conv => whnf)
    refine (refClean_ok w5 hs3 ho3 (by omega)).mono ?_
    rintro v w5' ⟨rfl, rfl⟩
    (conv => whnf)
    rw [show (cleanB ss == cleanB ss) = true from by simp]
    (conv => whnf)
    refine (Count_ok w5 p hs2 ho2 (by omega)).mono ?_
    rintro v w6 ⟨rfl, hk6⟩
    have kp := kp.keepNo hk6
    (conv => whnf)
    refine VCmp.mk (fun _ => ?_) (fun h => absurd rfl h); (conv => whnf)
    exact ⟨rfl, kp⟩
  obtain ⟨x, hx⟩ : ∃ x, ss[k]? = some x := ⟨_, List.getElem?_eq_getElem (by omega)⟩
  have hsn := countN_snoc p ss k x hx
  obtain ⟨b, o, A1, c1, hA, hkn, e0, _⟩ := ho3.at_ hs3 hx
  refine VIdx.mul k rfl hkn hA ?_
  (conv => whnf)
  refine VLoad.by_ (kk.cell e0 id) ?_
  (conv => whnf)
  refine VCmp.mk (fun h1 => ?_) (fun h1 => ?_) <;> (conv => whnf)
  · rw [if_pos h1] at hsn
    refine VRes.i64 (by omega) ?_
    (conv => whnf)
    refine VRes.i64 (by omega) ?_; (conv => whnf)
    exact ⟨k + 1, ⟨rfl, rfl, rfl, rfl, rfl, by rw [hsn]; rfl, rfl, trivial⟩, ⟨by omega, kk⟩, by omega⟩
  · rw [if_neg h1] at hsn
    refine VRes.i64 (by omega) ?_; (conv => whnf)
    exact ⟨k + 1, ⟨rfl, rfl, rfl, rfl, rfl, by rw [hsn]; rfl, rfl, trivial⟩, ⟨by omega, kk⟩, by omega⟩

/-! ### The statement -/
theorem gateLooks_own : ownKnob Tryd.prog.godebug = none := by kernel_rfl
theorem gateLooks_laid : laidOutB Tryd.prog = true := by kernel_rfl
set_option maxRecDepth 100000 in
theorem gateLooks_lifted (os : Os) (started : os.Started) (H : Type) (enc : TypeId × Value → H) :
    ReturnsInHanded {} Tryd.checked os 5 .any (fun w args => (Rows.gateLooksSpec.pre enc Tryd.prog Tryd.f5 Rows.gateLooksRow.domain false w args ∧ laidMetH Tryd.prog laidL w) ∧ sizedMet enc Tryd.prog Tryd.f5 (OpenSpec.ofChange Rows.gateLooksSpec) false w args) (Rows.gateLooksSpec.post enc Tryd.prog Tryd.f5 false true false false) := by
  refine returnsInHanded_of_change_and (C := Tryd.checked) (X := fun w _ => laidMetH Tryd.prog laidL w) (fun _ _ _ hh h => h.of_heap hh) gateLooks_own started (by kernel_rfl) Tryd.func5
    (ChangeSpec.witness_at (enc := enc) (C := Tryd.checked) (os := os) (X := fun w _ => laidMetH Tryd.prog laidL w) false (laidWorld os) #[.slice none 0 0, .int .i64 0] 8 rfl (by kernel_rfl) (by kernel_rfl) (by kernel_rfl) (by kernel_rfl) (by kernel_rfl) (laidWorld_met os _)) ?_
  intro W base args ds gs before hval0 hW hcnd _ hL _
  have hg := handle_of_laid hL
  have hval : ∀ (j : Nat) t v, Tryd.f5.params[j]? = some t → args[j]? = some v → Value.okWide Tryd.prog W .any base t v := hval0
  have hW' := hW
  obtain ⟨p, q, hA0, hV, rfl, hfz, hnd⟩ := hW
  have hA : DataW.TrodAll enc Tryd.prog W 0 (fun _ => true) true Tryd.f5.params.toList args.toList ds p := hA0
  rw [Tryd.params5] at hA hval
  obtain ⟨v0, vs0, d0, ds0, p0, q0, hargs, rfl, rfl, h0, r0⟩ := trodAll_cons hA
  obtain ⟨v1, vs1, d1, ds1, p1, q1, rfl, rfl, rfl, h1, r1⟩ := trodAll_cons r0
  obtain ⟨rfl, rfl, rfl⟩ := trodAll_nil r1
  obtain rfl : args = #[v0, v1] := by cases args; simp_all
  obtain ⟨rfl, rfl⟩ := trodVars_none hV
  have k0 := h0
  have lt0 : ∀ x ∈ p0, x.block < W.heap.size := by obtain ⟨m, hm⟩ := k0; exact DataW.trod_lt m _ _ _ hm
  obtain ⟨aa0, la0, ca0, rfl⟩ := okWide_slice Tryd.underlying27 (hval 0 27 v0 rfl rfl)
  obtain ⟨fuel0, hf0⟩ := h0
  obtain ⟨A0, n0, c0, l0, e0, s0, ln0, nc0, cc0, b0⟩ := open_bytes Tryd.underlying27 Tryd.underlying5 (by kernel_rfl) hf0
  cases e0
  have k1 := h1
  have lt1 : ∀ x ∈ p1, x.block < W.heap.size := by obtain ⟨m, hm⟩ := k1; exact DataW.trod_lt m _ _ _ hm
  obtain ⟨a1, rfl, rfl, rfl, w1⟩ := open_int Tryd.underlying3 (hval 1 3 v1 rfl rfl) h1
  clear hA0 hval0
  refine (VC.law (gateLooks_ok W hg aa0 la0 ca0 l0 s0 nc0 cc0 b0 a1 (int_of w1))).mono fun e W' ⟨he, bel⟩ => ?_
  subst he
  exact ⟨_, rfl, _, _, _, [], _, [], hW', trodAll_mk1 (shut_bool Tryd.underlying4 _), (trodAll_cons_mk (Below.trod gateLooks_laid (by kernel_rfl) (of_decide_eq_true (by kernel_rfl)) k0 bel lt0) (trodAll_cons_mk (Below.trod gateLooks_laid (by kernel_rfl) (of_decide_eq_true (by kernel_rfl)) k1 bel lt1) trodAll_mk0)), rfl, bel.frame _, fun h => by cases h⟩

theorem gateLooks_over : Rows.gateLooksRow.holds Tryd.pinned (OpenSpec.ofChange Rows.gateLooksSpec) :=
  OpenClaim.holds_of_wide 5 Tryd.f5 rfl rfl rfl rfl rfl rfl rfl ⟨rfl, rfl, rfl, rfl, rfl⟩ rfl rfl rfl rfl rfl (by kernel_rfl) Tryd.func5 (by kernel_rfl)
    (of_decide_eq_true (by kernel_rfl)) (by unfold Func.isWrapper; first | (rw [if_pos (by decide +kernel)]; kernel_rfl) | (rw [if_neg (by decide +kernel)]; exact ⟨rfl, rfl⟩))
    (fun os started H enc _ => gateLooks_lifted os started H enc)


theorem gateLooks_proved : Rows.GateLooksCardSaid :=
  Claim7.holds_tied_plain_at .later [] [.handle] true (true, "7db9daa1a0c26b0a4d8629d9a49f21a28a0de7136281b861cac71a81a6cff372") true
    gateLooks_over (fun _ h => by cases h) (by kernel_rfl) (fun _ h => by cases h) gateLooks_row_tie rfl ⟨rfl, rfl⟩ (by kernel_rfl) rfl
    (fun f fn hf hfn => by
      obtain rfl : f = 5 := Option.some.inj ((show Tryd.prog.funcNamed "fairlead/fairleadlaw26.GateLooks" = some 5 by kernel_rfl).symm.trans hf) |>.symm
      obtain rfl : fn = Tryd.f5 := (Option.some.inj (Tryd.func5.symm.trans hfn)).symm
      exact ⟨by kernel_rfl, fun j t ht => by
        rw [Tryd.params5] at ht
        exact (match j, ht with
      | 0, ht => by obtain rfl : 27 = t := (by simpa using ht); kernel_rfl
      | 1, ht => by obtain rfl : 3 = t := (by simpa using ht); kernel_rfl
      | j + 2, ht => by simp at ht)⟩)
    (by kernel_rfl)
#print axioms gateLooks_proved
end Go.Proofs.YtpofkhjkdkkajaaDoor
