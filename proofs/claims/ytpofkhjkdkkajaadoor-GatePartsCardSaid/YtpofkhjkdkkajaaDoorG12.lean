/-
  Gate: a row of what was seen, parted: clean and counted. For every input. With the statement.
-/
import Derived.Test.YtpofkhjkdkkajaaDoorG11
namespace Go.Proofs.YtpofkhjkdkkajaaDoor
open Go V Go.ChangeShapes Go.WideShapes Go.ChangeAt Go.RowKit

theorem clean_cut (ss : List Sn) (q : Nat) : cleanB ss = (cleanB (ss.take q) && cleanB (ss.drop q)) := by
  conv => lhs; rw [← List.take_append_drop q ss]
  unfold cleanB
  rw [List.all_append]
theorem count_cut (p : Int) (ss : List Sn) (q : Nat) : countN p ss = countN p (ss.take q) + countN p (ss.drop q) := by
  conv => lhs; rw [← List.take_append_drop q ss]
  unfold countN
  rw [List.filter_append, List.length_append]

theorem gateParts_ok (W : World) (hg : EtOk W) (A : Option Addr) (n c : Nat) (cells : List Value) (ss : List Sn) (hs : Sl W 5 A n cells) (ho : Sns W (fun k => k < W.heap.size) cells ss) (hnc : n ≤ c) (_ : c ≤ 9223372036854775807) (_ : True) (cut : Int) (_ : -9223372036854775808 ≤ cut ∧ cut ≤ 9223372036854775807) (p : Int) (_ : -9223372036854775808 ≤ p ∧ p ≤ 9223372036854775807) :
    VC Tryd.prog 6 [.slice A n c, .int .i64 cut, .int .i64 p] W (fun v w' => v = .bool true ∧ Keep No W w') := by
  have hl := ho.len hs
  refine VC.of tt_ok Tryd.func6 rfl (by decide +kernel) (Nat.le_of_ble_eq_true rfl) ?_; (conv => whnf)
  refine (awake26_ok W hg).mono ?_
  rintro v w1 ⟨rfl, kp⟩
  (conv => whnf)
  refine VCmp.mk (fun h => ?_) (fun h => ?_) <;> (conv => whnf)
  · exact ⟨rfl, kp⟩
  have r1 := Int.tmod_lt_of_pos cut (show (0 : Int) < (n : Int) + 1 by omega)
  have r2 := Int.lt_tmod_of_pos cut (show (0 : Int) < (n : Int) + 1 by omega)
  refine VRes.i64 (by omega) ?_; (conv => whnf)
  refine VReq.mk (by omega) ?_
  (conv => whnf)
  refine ⟨?_⟩
  (conv => whnf)
  refine VRes.i64 (by omega) ?_; (conv => whnf)
  refine VRes.i64 (by omega) ?_; (conv => whnf)
  refine VRes.i64 (by omega) ?_; (conv => whnf)
  refine VReq.mk (by omega) ?_
  (conv => whnf)
  refine ⟨?_⟩
  obtain ⟨t, ht⟩ : ∃ t, t = cut.tmod ((n : Int) + 1) := ⟨_, rfl⟩
  rw [← ht] at r1 r2 ⊢
  have r3 := Int.tmod_lt_of_pos (t + n + 1) (show (0 : Int) < (n : Int) + 1 by omega)
  have r4 := Int.tmod_nonneg ((n : Int) + 1) (show (0 : Int) ≤ t + n + 1 by omega)
  obtain ⟨q, hq⟩ : ∃ q : Nat, (q : Int) = (t + n + 1).tmod ((n : Int) + 1) := ⟨((t + n + 1).tmod ((n : Int) + 1)).toNat, by omega⟩
  rw [← hq] at r3 r4 ⊢
  (conv => whnf)
  refine (Seen26_ok w1 (hs.keepNo kp) ((ho.keepNo kp).mono (fun i hi => Nat.lt_of_lt_of_le hi kp.size)) (by omega)).mono ?_
  rintro v w2 ⟨⟨A2, c2, cells2, rfl, hown, hsn⟩, hk2⟩
  have kp := kp.keepNo hk2
  have hcl := clean_cut ss q
  have hct := count_cut p ss q
  have hle := countN_le p ss
  have hlc := hown.le
  (conv => whnf)
  refine VDraw.by_ tt_ok rfl (.take 0 (.take 2 (.take 3 (.take 4 (.one 1 (.one 5 (.take 6 (.take 7 (.take 8 (.take 9 (.one 10 (.take 11 (.take 12 (.take 13 (.take 14 (.take 16 (.one 15 (.one 17 (.take 18 (.take 19 (.take 20 (.take 21 (.take 22 (.take 24 (.take 25 (.take 26 (.take 27 (.take 29 (.take 30 (.take 31 (.take 32 (.one 23 (.one 28 (.one 33 (.take 34 (.take 35 (.take 36 (.take 37 .done)))))))))))))))))))))))))))))))))))))) (by decide +kernel) _ (fun x h1 h2 h3 h4 => Keep.ofHeap h1 h2 h3 h4) (fun wd hd kd => ?_)
  have kp := kp.keepNo kd
  have hown := hown.keepNo kd
  have hsn := hsn.keepNo kd
  have hs2 := Sl.ofOwn hown
  have hs0 := hs.keepNo kp
  have ho0 := ho.keepNo kp
  (conv => whnf)
  refine VCut.by_ 0 q rfl rfl (by omega) (by omega) ?_
  intro B1 hB1
  have hsL := Sl.cut hs2 (l := 0) (h := q) (by omega) (by omega) hlc hB1
  have hoL : Sns wd _ _ (ss.take q) := (hsn.take q).drop 0
  (conv => whnf)
  refine (Clean_ok wd hs2 hsn (by omega)).mono ?_
  rintro v w3 ⟨rfl, hk3⟩
  have kp := kp.keepNo hk3; have hs2 := hs2.keepNo hk3; have hsn := hsn.keepNo hk3; have hsL := hsL.keepNo hk3; have hoL := hoL.keepNo hk3; have hs0 := hs0.keepNo hk3; have ho0 := ho0.keepNo hk3
  (conv => whnf)
  refine VOwe.to (fun _ => True) (fun h => absurd h (by decide +kernel)) trivial ?_; (conv => whnf)
  refine (Clean_ok w3 hsL hoL (by omega)).mono ?_
  rintro v w4 ⟨rfl, hk4⟩
  have kp := kp.keepNo hk4; have hs2 := hs2.keepNo hk4; have hsn := hsn.keepNo hk4; have hsL := hsL.keepNo hk4; have hoL := hoL.keepNo hk4; have hs0 := hs0.keepNo hk4; have ho0 := ho0.keepNo hk4
  (conv => whnf)
  refine VOwe.to (fun _ => True) (fun h => absurd h (by decide +kernel)) trivial ?_; (conv => whnf)
  cases hcq : cleanB (ss.take q) with
  | false =>
    rw [hcq, Bool.false_and] at hcl
    (conv => whnf)
    rw [show (cleanB ss == false) = true from by rw [hcl]; rfl]
    (conv => whnf)
    refine (Clean_ok w4 hs2 hsn (by omega)).mono ?_
    rintro v w6 ⟨rfl, hk6⟩
    have kp := kp.keepNo hk6; have hs2 := hs2.keepNo hk6; have hsn := hsn.keepNo hk6; have hsL := hsL.keepNo hk6; have hoL := hoL.keepNo hk6; have hs0 := hs0.keepNo hk6; have ho0 := ho0.keepNo hk6
    (conv => whnf)
    refine VOwe.to (fun _ => True) (fun h => absurd h (by decide +kernel)) trivial ?_; (conv => whnf)
    refine (refClean_ok w6 hs0 ho0 (by omega)).mono ?_
    rintro v w6' ⟨rfl, rfl⟩
    (conv => whnf)
    refine VOwe.to (fun _ => True) (fun h => absurd h (by decide +kernel)) trivial ?_; (conv => whnf)
    rw [show (cleanB ss == cleanB ss) = true from by simp]
    (conv => whnf)
    refine VCut.by_ 0 q rfl rfl (by omega) (by omega) ?_
    intro B3 hB3
    have hsL := Sl.cut hs2 (l := 0) (h := q) (by omega) (by omega) hlc hB3
    (conv => whnf)
    refine VReq.mk hlc ?_
    refine VCut.by_ q n rfl rfl (by omega) hlc ?_
    intro B4 hB4
    have hsR := Sl.cut hs2 (l := q) (h := n) (by omega) (by omega) hlc hB4
    have htn : ss.take n = ss := List.take_of_length_le (by omega)
    have hoR := (hsn.take n).drop q
    rw [htn] at hoR
    (conv => whnf)
    refine (Count_ok w6 p hs2 hsn (by omega)).mono ?_
    rintro v w7 ⟨rfl, hk7⟩
    have kp := kp.keepNo hk7; have hsL := hsL.keepNo hk7; have hoL := hoL.keepNo hk7; have hsR := hsR.keepNo hk7; have hoR := hoR.keepNo hk7
    (conv => whnf)
    refine VOwe.to (fun _ => True) (fun h => absurd h (by decide +kernel)) trivial ?_; (conv => whnf)
    refine (Count_ok w7 p hsL hoL (by omega)).mono ?_
    rintro v w8 ⟨rfl, hk8⟩
    have kp := kp.keepNo hk8; have hsR := hsR.keepNo hk8; have hoR := hoR.keepNo hk8
    (conv => whnf)
    refine VOwe.to (fun _ => True) (fun h => absurd h (by decide +kernel)) trivial ?_; (conv => whnf)
    refine (Count_ok w8 p hsR hoR (by omega)).mono ?_
    rintro v w9 ⟨rfl, hk9⟩
    have kp := kp.keepNo hk9
    (conv => whnf)
    refine VOwe.to (fun _ => True) (fun h => absurd h (by decide +kernel)) trivial ?_; (conv => whnf)
    refine VRes.i64 (by omega) ?_; (conv => whnf)
    refine VCmp.mk (fun _ => ?_) (fun h => absurd (by omega) h)
    (conv => whnf)
    exact ⟨rfl, kp⟩
  | true =>
    rw [hcq, Bool.true_and] at hcl
    (conv => whnf)
    refine VReq.mk hlc ?_
    refine VCut.by_ q n rfl rfl (by omega) hlc ?_
    intro B2 hB2
    have hsR := Sl.cut hs2 (l := q) (h := n) (by omega) (by omega) hlc hB2
    have htn : ss.take n = ss := List.take_of_length_le (by omega)
    have hoR := (hsn.take n).drop q
    rw [htn] at hoR
    (conv => whnf)
    refine (Clean_ok w4 hsR hoR (by omega)).mono ?_
    rintro v w5 ⟨rfl, hk5⟩
    have kp := kp.keepNo hk5; have hs2 := hs2.keepNo hk5; have hsn := hsn.keepNo hk5; have hsL := hsL.keepNo hk5; have hoL := hoL.keepNo hk5; have hs0 := hs0.keepNo hk5; have ho0 := ho0.keepNo hk5
    (conv => whnf)
    refine VOwe.to (fun _ => True) (fun h => absurd h (by decide +kernel)) trivial ?_; (conv => whnf)
    rw [show (cleanB ss == cleanB (ss.drop q)) = true from by rw [hcl]; simp]
    (conv => whnf)
    refine (Clean_ok w5 hs2 hsn (by omega)).mono ?_
    rintro v w6 ⟨rfl, hk6⟩
    have kp := kp.keepNo hk6; have hs2 := hs2.keepNo hk6; have hsn := hsn.keepNo hk6; have hsL := hsL.keepNo hk6; have hoL := hoL.keepNo hk6; have hs0 := hs0.keepNo hk6; have ho0 := ho0.keepNo hk6
    (conv => whnf)
    refine VOwe.to (fun _ => True) (fun h => absurd h (by decide +kernel)) trivial ?_; (conv => whnf)
    refine (refClean_ok w6 hs0 ho0 (by omega)).mono ?_
    rintro v w6' ⟨rfl, rfl⟩
    (conv => whnf)
    refine VOwe.to (fun _ => True) (fun h => absurd h (by decide +kernel)) trivial ?_; (conv => whnf)
    rw [show (cleanB ss == cleanB ss) = true from by simp]
    (conv => whnf)
    refine VCut.by_ 0 q rfl rfl (by omega) (by omega) ?_
    intro B3 hB3
    have hsL := Sl.cut hs2 (l := 0) (h := q) (by omega) (by omega) hlc hB3
    (conv => whnf)
    refine VReq.mk hlc ?_
    refine VCut.by_ q n rfl rfl (by omega) hlc ?_
    intro B4 hB4
    have hsR := Sl.cut hs2 (l := q) (h := n) (by omega) (by omega) hlc hB4
    have htn : ss.take n = ss := List.take_of_length_le (by omega)
    have hoR := (hsn.take n).drop q
    rw [htn] at hoR
    (conv => whnf)
    refine (Count_ok w6 p hs2 hsn (by omega)).mono ?_
    rintro v w7 ⟨rfl, hk7⟩
    have kp := kp.keepNo hk7; have hsL := hsL.keepNo hk7; have hoL := hoL.keepNo hk7; have hsR := hsR.keepNo hk7; have hoR := hoR.keepNo hk7
    (conv => whnf)
    refine VOwe.to (fun _ => True) (fun h => absurd h (by decide +kernel)) trivial ?_; (conv => whnf)
    refine (Count_ok w7 p hsL hoL (by omega)).mono ?_
    rintro v w8 ⟨rfl, hk8⟩
    have kp := kp.keepNo hk8; have hsR := hsR.keepNo hk8; have hoR := hoR.keepNo hk8
    (conv => whnf)
    refine VOwe.to (fun _ => True) (fun h => absurd h (by decide +kernel)) trivial ?_; (conv => whnf)
    refine (Count_ok w8 p hsR hoR (by omega)).mono ?_
    rintro v w9 ⟨rfl, hk9⟩
    have kp := kp.keepNo hk9
    (conv => whnf)
    refine VOwe.to (fun _ => True) (fun h => absurd h (by decide +kernel)) trivial ?_; (conv => whnf)
    refine VRes.i64 (by omega) ?_; (conv => whnf)
    refine VCmp.mk (fun _ => ?_) (fun h => absurd (by omega) h)
    (conv => whnf)
    exact ⟨rfl, kp⟩

/-! ### The statement -/
theorem gateParts_own : ownKnob Tryd.prog.godebug = none := by kernel_rfl
theorem gateParts_laid : laidOutB Tryd.prog = true := by kernel_rfl
set_option maxRecDepth 100000 in
theorem gateParts_lifted (os : Os) (started : os.Started) (H : Type) (enc : TypeId × Value → H) :
    ReturnsInHanded {} Tryd.checked os 6 .any (fun w args => (Rows.gatePartsSpec.pre enc Tryd.prog Tryd.f6 Rows.gatePartsRow.domain false w args ∧ laidMetH Tryd.prog laidL w) ∧ sizedMet enc Tryd.prog Tryd.f6 (OpenSpec.ofChange Rows.gatePartsSpec) false w args) (Rows.gatePartsSpec.post enc Tryd.prog Tryd.f6 false true false false) := by
  refine returnsInHanded_of_change_and (C := Tryd.checked) (X := fun w _ => laidMetH Tryd.prog laidL w) (fun _ _ _ hh h => h.of_heap hh) gateParts_own started (by kernel_rfl) Tryd.func6
    (ChangeSpec.witness_at (enc := enc) (C := Tryd.checked) (os := os) (X := fun w _ => laidMetH Tryd.prog laidL w) false (laidWorld os) #[.slice none 0 0, .int .i64 0, .int .i64 0] 8 rfl (by kernel_rfl) (by kernel_rfl) (by kernel_rfl) (by kernel_rfl) (by kernel_rfl) (laidWorld_met os _)) ?_
  intro W base args ds gs before hval0 hW hcnd _ hL _
  have hg := handle_of_laid hL
  have hval : ∀ (j : Nat) t v, Tryd.f6.params[j]? = some t → args[j]? = some v → Value.okWide Tryd.prog W .any base t v := hval0
  have hW' := hW
  obtain ⟨p, q, hA0, hV, rfl, hfz, hnd⟩ := hW
  have hA : DataW.TrodAll enc Tryd.prog W 0 (fun _ => true) true Tryd.f6.params.toList args.toList ds p := hA0
  rw [Tryd.params6] at hA hval
  obtain ⟨v0, vs0, d0, ds0, p0, q0, hargs, rfl, rfl, h0, r0⟩ := trodAll_cons hA
  obtain ⟨v1, vs1, d1, ds1, p1, q1, rfl, rfl, rfl, h1, r1⟩ := trodAll_cons r0
  obtain ⟨v2, vs2, d2, ds2, p2, q2, rfl, rfl, rfl, h2, r2⟩ := trodAll_cons r1
  obtain ⟨rfl, rfl, rfl⟩ := trodAll_nil r2
  obtain rfl : args = #[v0, v1, v2] := by cases args; simp_all
  obtain ⟨rfl, rfl⟩ := trodVars_none hV
  have k0 := h0
  have lt0 : ∀ x ∈ p0, x.block < W.heap.size := by obtain ⟨m, hm⟩ := k0; exact DataW.trod_lt m _ _ _ hm
  obtain ⟨aa0, la0, ca0, rfl⟩ := okWide_slice Tryd.underlying41 (hval 0 41 v0 rfl rfl)
  obtain ⟨fuel0, hf0⟩ := h0
  obtain ⟨A0, n0, c0, va0, l0, e0, s0, el0, nc0, cc0, fl0⟩ := open_seens hf0
  cases e0
  have k1 := h1
  have lt1 : ∀ x ∈ p1, x.block < W.heap.size := by obtain ⟨m, hm⟩ := k1; exact DataW.trod_lt m _ _ _ hm
  obtain ⟨a1, rfl, rfl, rfl, w1⟩ := open_int Tryd.underlying3 (hval 1 3 v1 rfl rfl) h1
  have k2 := h2
  have lt2 : ∀ x ∈ p2, x.block < W.heap.size := by obtain ⟨m, hm⟩ := k2; exact DataW.trod_lt m _ _ _ hm
  obtain ⟨a2, rfl, rfl, rfl, w2⟩ := open_int Tryd.underlying3 (hval 2 3 v2 rfl rfl) h2
  clear hA0 hval0
  refine (VC.law (gateParts_ok W hg aa0 la0 ca0 va0 l0 s0 el0 nc0 cc0 fl0 a1 (int_of w1) a2 (int_of w2))).mono fun e W' ⟨he, bel⟩ => ?_
  subst he
  exact ⟨_, rfl, _, _, _, [], _, [], hW', trodAll_mk1 (shut_bool Tryd.underlying4 _), (trodAll_cons_mk (Below.trod gateParts_laid (by kernel_rfl) (of_decide_eq_true (by kernel_rfl)) k0 bel lt0) (trodAll_cons_mk (Below.trod gateParts_laid (by kernel_rfl) (of_decide_eq_true (by kernel_rfl)) k1 bel lt1) (trodAll_cons_mk (Below.trod gateParts_laid (by kernel_rfl) (of_decide_eq_true (by kernel_rfl)) k2 bel lt2) trodAll_mk0))), rfl, bel.frame _, fun h => by cases h⟩

theorem gateParts_over : Rows.gatePartsRow.holds Tryd.pinned (OpenSpec.ofChange Rows.gatePartsSpec) :=
  OpenClaim.holds_of_wide 6 Tryd.f6 rfl rfl rfl rfl rfl rfl rfl ⟨rfl, rfl, rfl, rfl, rfl⟩ rfl rfl rfl rfl rfl (by kernel_rfl) Tryd.func6 (by kernel_rfl)
    (of_decide_eq_true (by kernel_rfl)) (by unfold Func.isWrapper; first | (rw [if_pos (by decide +kernel)]; kernel_rfl) | (rw [if_neg (by decide +kernel)]; exact ⟨rfl, rfl⟩))
    (fun os started H enc _ => gateParts_lifted os started H enc)


theorem gateParts_proved : Rows.GatePartsCardSaid :=
  Claim7.holds_tied_plain_at .later [] [.handle] true (true, "7db9daa1a0c26b0a4d8629d9a49f21a28a0de7136281b861cac71a81a6cff372") true
    gateParts_over (fun _ h => by cases h) (by kernel_rfl) (fun _ h => by cases h) gateParts_row_tie rfl ⟨rfl, rfl⟩ (by kernel_rfl) rfl
    (fun f fn hf hfn => by
      obtain rfl : f = 6 := Option.some.inj ((show Tryd.prog.funcNamed "fairlead/fairleadlaw26.GateParts" = some 6 by kernel_rfl).symm.trans hf) |>.symm
      obtain rfl : fn = Tryd.f6 := (Option.some.inj (Tryd.func6.symm.trans hfn)).symm
      exact ⟨by kernel_rfl, fun j t ht => by
        rw [Tryd.params6] at ht
        exact (match j, ht with
      | 0, ht => by obtain rfl : 41 = t := (by simpa using ht); kernel_rfl
      | 1, ht => by obtain rfl : 3 = t := (by simpa using ht); kernel_rfl
      | 2, ht => by obtain rfl : 3 = t := (by simpa using ht); kernel_rfl
      | j + 3, ht => by simp at ht)⟩)
    (by kernel_rfl)
#print axioms gateParts_proved
end Go.Proofs.YtpofkhjkdkkajaaDoor
