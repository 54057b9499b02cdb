/-
  DES: by a key of noughts, or of ones, a block that is encrypted twice is the block.
-/
import Derived.Test.YtififgodhnelgaaD12
import Derived.Test.YtififgodhnelgaaD10
import Derived.Test.YtififgodhnelgaaAr
import Derived.Test.YtififgodhnelgaaRows
namespace Go.Proofs.Ytififgodhnelgaa
open Go V Go.ChangeShapes Go.WideShapes Go.ChangeAt Go.RowKit

def onesK : Nat → List UInt8
  | 0 => List.replicate 7 0
  | k + 1 => (onesK k).set k 255
theorem onesK_len (k : Nat) : (onesK k).length = 7 := by
  induction k with
  | zero => rfl
  | succ k ih => rw [onesK, List.length_set, ih]
theorem desTwice_ok (W : World) (ones : Bool) (a : List UInt8) (ha : a.length = 8) :
    VC Try.prog 11 [.bool ones, .agg (a.map vb).toArray] W (fun v w' => v = .bool true ∧ Keep No W w') := by
  cases ones with
  | false =>
    refine VC.of tt_ok Try.func11 rfl (by decide +kernel) (Nat.le_of_ble_eq_true rfl) ?_; (conv => whnf)
    refine ⟨fun w1 hb1 kp => ?_⟩; have hb1_lt := Blk.lt hb1; have kp_sz := kp.size; (conv => whnf)
    have hb1 : Blk w1 W.heap.size 55 (a.map vb) := hb1
    (conv => whnf)
    refine (awake8_ok w1).mono ?_
    rintro v w2 ⟨rfl, k2⟩
    have kp := kp.keepNo k2; have hb1 := hb1.keepNo k2
    (conv => whnf)
    refine VMake.row_ (n := 7) (z := vb 0) (bytes := 1) Try.underlying22 (by kernel_rfl) rfl (by omega) (by omega) ?_
    intro w3 hq k3
    have hq : Blk w3 w2.heap.size T8 ((onesK 0).map vb) := by rw [onesK, List.map_replicate]; exact hq
    (conv => whnf)
    refine VLoop.by_ tt_ok (S := Nat) (fun j => [(0, .bool false), (3, .pointer (some ⟨W.heap.size, 0, none⟩)), (5, .slice (some ⟨w2.heap.size, 0, none⟩) 7 7), (6, .int .i64 j)])
      (fun j w' => j ≤ 0 ∧ Blk w' w2.heap.size T8 ((onesK j).map vb) ∧ Keep No w2 w') (fun j => 7 - j) 0
      ⟨rfl, rfl, rfl, rfl, trivial⟩ ⟨by omega, hq, k3⟩ ?_
    rintro j wj ⟨hj, hq, kj⟩
    have hlt := Blk.lt hq
    have hol := onesK_len j
    (conv => whnf)
    obtain rfl : j = 0 := by omega
    refine VCmp.mk (fun _ => ?_) (fun h => absurd h (by omega)); (conv => whnf)
    have hq : Blk wj w2.heap.size T8 ((List.replicate 7 0).map vb) := hq
    have kp := kp.keepNo kj; have hb1 := hb1.keepNo kj
    have hk := Sl.ofBlk (n := 7) (size := 1) hq rfl
    refine ⟨⟨0, 8, rfl, rfl, by omega, by omega, fun A' hA' => ?_⟩⟩
    have hA' : A' = some ⟨W.heap.size, 0, none⟩ := hA'
    subst hA'
    have hx := Sl.ofBlk (n := 8) (size := 1) hb1 (by rw [List.length_map, ha])
    (conv => whnf)
    refine (encrypt_ok wj hk hx (by omega) (by omega)).mono ?_
    rintro v w5 ⟨hv, k5⟩
    rw [if_pos ⟨rfl, rfl⟩] at hv
    obtain ⟨q, rfl, hq5⟩ := hv
    have kp := kp.keepNo k5; have hk := hk.keepNo k5; have hx := hx.keepNo k5; have hb1 := hb1.keepNo k5
    have h5 := Sl.ofBlk (n := 8) (size := 1) hq5 (by rw [List.length_map, desP_len])
    (conv => whnf)
    refine (encrypt_ok w5 hk h5 (by omega) (by omega)).mono ?_
    rintro v w6 ⟨hv, k6⟩
    rw [if_pos ⟨rfl, rfl⟩, desP_twice (k := List.replicate 48 0) keys_noughts ha] at hv
    obtain ⟨q6, rfl, hq6⟩ := hv
    have kp := kp.keepNo k6; have hx := hx.keepNo k6; have hb1 := hb1.keepNo k6
    have h6 := Sl.ofBlk (n := 8) (size := 1) hq6 (by rw [List.length_map, ha])
    (conv => whnf)
    refine VCmp.mk (fun _ => ?_) (fun h => absurd rfl h); (conv => whnf)
    refine VCmp.mk (fun _ => ?_) (fun h => absurd rfl h); (conv => whnf)
    refine ⟨⟨0, 8, rfl, rfl, by omega, by omega, fun A' hA' => ?_⟩⟩
    have hA' : A' = some ⟨W.heap.size, 0, none⟩ := hA'
    subst hA'
    (conv => whnf)
    refine (same_ok w6 h6 hx (by omega)).mono ?_
    rintro v w7 ⟨rfl, k7⟩
    rw [decide_eq_true rfl]
    (conv => whnf)
    exact ⟨rfl, kp.trans k7⟩
  | true =>
    refine VC.of tt_ok Try.func11 rfl (by decide +kernel) (Nat.le_of_ble_eq_true rfl) ?_; (conv => whnf)
    refine ⟨fun w1 hb1 kp => ?_⟩; have hb1_lt := Blk.lt hb1; have kp_sz := kp.size; (conv => whnf)
    have hb1 : Blk w1 W.heap.size 55 (a.map vb) := hb1
    (conv => whnf)
    refine (awake8_ok w1).mono ?_
    rintro v w2 ⟨rfl, k2⟩
    have kp := kp.keepNo k2; have hb1 := hb1.keepNo k2
    (conv => whnf)
    refine VMake.row_ (n := 7) (z := vb 0) (bytes := 1) Try.underlying22 (by kernel_rfl) rfl (by omega) (by omega) ?_
    intro w3 hq k3
    have hq : Blk w3 w2.heap.size T8 ((onesK 0).map vb) := by rw [onesK, List.map_replicate]; exact hq
    (conv => whnf)
    refine VLoop.by_ tt_ok (S := Nat) (fun j => [(0, .bool true), (3, .pointer (some ⟨W.heap.size, 0, none⟩)), (5, .slice (some ⟨w2.heap.size, 0, none⟩) 7 7), (6, .int .i64 j)])
      (fun j w' => j ≤ 7 ∧ Blk w' w2.heap.size T8 ((onesK j).map vb) ∧ Keep No w2 w') (fun j => 7 - j) 0
      ⟨rfl, rfl, rfl, rfl, trivial⟩ ⟨by omega, hq, k3⟩ ?_
    rintro j wj ⟨hj, hq, kj⟩
    have hlt := Blk.lt hq
    have hol := onesK_len j
    (conv => whnf)
    refine VCmp.mk (fun h => ?_) (fun h => ?_) <;> (conv => whnf)
    · refine VIdx.one j rfl (by omega) rfl ?_
      (conv => whnf)
      refine VStore.one hq (by rw [List.length_map, hol]; omega) ?_
      intro w4 hq4 k4 _
      have kj := kj.fresh_ k4 (Nat.le_refl _)
      (conv => whnf)
      refine VRes.i64 (by omega) ?_; (conv => whnf)
      exact ⟨j + 1, ⟨rfl, rfl, rfl, rfl, trivial⟩, ⟨by omega, by rw [onesK, List.map_set]; simpa [vb] using hq4, kj⟩, by omega⟩
    obtain rfl : j = 7 := by omega
    have hq : Blk wj w2.heap.size T8 ((List.replicate 7 255).map vb) := hq
    have kp := kp.keepNo kj; have hb1 := hb1.keepNo kj
    have hk := Sl.ofBlk (n := 7) (size := 1) hq rfl
    refine ⟨⟨0, 8, rfl, rfl, by omega, by omega, fun A' hA' => ?_⟩⟩
    have hA' : A' = some ⟨W.heap.size, 0, none⟩ := hA'
    subst hA'
    have hx := Sl.ofBlk (n := 8) (size := 1) hb1 (by rw [List.length_map, ha])
    (conv => whnf)
    refine (encrypt_ok wj hk hx (by omega) (by omega)).mono ?_
    rintro v w5 ⟨hv, k5⟩
    rw [if_pos ⟨rfl, rfl⟩] at hv
    obtain ⟨q, rfl, hq5⟩ := hv
    have kp := kp.keepNo k5; have hk := hk.keepNo k5; have hx := hx.keepNo k5; have hb1 := hb1.keepNo k5
    have h5 := Sl.ofBlk (n := 8) (size := 1) hq5 (by rw [List.length_map, desP_len])
    (conv => whnf)
    refine (encrypt_ok w5 hk h5 (by omega) (by omega)).mono ?_
    rintro v w6 ⟨hv, k6⟩
    rw [if_pos ⟨rfl, rfl⟩, desP_twice (k := List.replicate 48 1) keys_ones ha] at hv
    obtain ⟨q6, rfl, hq6⟩ := hv
    have kp := kp.keepNo k6; have hx := hx.keepNo k6; have hb1 := hb1.keepNo k6
    have h6 := Sl.ofBlk (n := 8) (size := 1) hq6 (by rw [List.length_map, ha])
    (conv => whnf)
    refine VCmp.mk (fun _ => ?_) (fun h => absurd rfl h); (conv => whnf)
    refine VCmp.mk (fun _ => ?_) (fun h => absurd rfl h); (conv => whnf)
    refine ⟨⟨0, 8, rfl, rfl, by omega, by omega, fun A' hA' => ?_⟩⟩
    have hA' : A' = some ⟨W.heap.size, 0, none⟩ := hA'
    subst hA'
    (conv => whnf)
    refine (same_ok w6 h6 hx (by omega)).mono ?_
    rintro v w7 ⟨rfl, k7⟩
    rw [decide_eq_true rfl]
    (conv => whnf)
    exact ⟨rfl, kp.trans k7⟩

/-! ### The statement -/
theorem desTwice_own : ownKnob Try.prog.godebug = none := by kernel_rfl
theorem desTwice_laid : laidOutB Try.prog = true := by kernel_rfl
set_option maxRecDepth 100000 in
theorem desTwice_lifted (os : Os) (started : os.Started) (H : Type) (enc : TypeId × Value → H) :
    ReturnsInHanded {} Try.checked os 11 .any (Rows.desTwiceSpec.pre6 enc Try.prog Try.f11 Rows.desTwiceRow.domain false) (Rows.desTwiceSpec.post enc Try.prog Try.f11 false true false false) := by
  refine returnsInHanded_of_change (C := Try.checked) desTwice_own started (by kernel_rfl) Try.func11
    (ChangeSpec.witness6 (enc := enc) (C := Try.checked) false ⟨#[], #[.bool false, .agg #[.int .u8 0, .int .u8 0, .int .u8 0, .int .u8 0, .int .u8 0, .int .u8 0, .int .u8 0, .int .u8 0]], []⟩ 8 (by kernel_rfl) (by kernel_rfl) (by kernel_rfl) (by kernel_rfl)) ?_
  intro W base args ds gs before hval0 hW hcnd _
  have hval : ∀ (j : Nat) t v, Try.f11.params[j]? = some t → args[j]? = some v → Value.okWide Try.prog W .any base t v := hval0
  have hW' := hW
  obtain ⟨p, q, hA0, hV, rfl, hfz, hnd⟩ := hW
  have hA : DataW.TrodAll enc Try.prog W 0 (fun _ => true) true Try.f11.params.toList args.toList ds p := hA0
  rw [Try.params11] at hA hval
  obtain ⟨v0, vs0, d0, ds0, p0, q0, hargs, rfl, rfl, h0, r0⟩ := trodAll_cons hA
  obtain ⟨v1, vs1, d1, ds1, p1, q1, rfl, rfl, rfl, h1, r1⟩ := trodAll_cons r0
  obtain ⟨rfl, rfl, rfl⟩ := trodAll_nil r1
  obtain rfl : args = #[v0, v1] := by cases args; simp_all
  obtain ⟨rfl, rfl⟩ := trodVars_none hV
  have k0 := h0
  have lt0 : ∀ x ∈ p0, x.block < W.heap.size := by obtain ⟨m, hm⟩ := k0; exact DataW.trod_lt m _ _ _ hm
  obtain ⟨a0, rfl, rfl, rfl⟩ := open_bool Try.underlying4 (hval 0 4 v0 rfl rfl) h0
  have k1 := h1
  have lt1 : ∀ x ∈ p1, x.block < W.heap.size := by obtain ⟨m, hm⟩ := k1; exact DataW.trod_lt m _ _ _ hm
  obtain ⟨cs1, rfl⟩ := okWide_arr8 Try.underlying55 (hval 1 55 v1 rfl rfl)
  obtain ⟨fuel1, hf1⟩ := h1
  obtain ⟨l1, e1, n1⟩ := open_arr8 Try.underlying55 Try.underlying5 (by kernel_rfl) (by kernel_rfl) hf1
  subst e1
  clear hA0 hval0
  refine (VC.law (desTwice_ok W a0 l1 n1)).mono fun e W' ⟨he, bel⟩ => ?_
  subst he
  exact ⟨_, rfl, _, _, _, [], _, [], hW', trodAll_mk1 (shut_bool Try.underlying4 _), (trodAll_cons_mk (Below.trod desTwice_laid (by kernel_rfl) (of_decide_eq_true (by kernel_rfl)) k0 bel lt0) (trodAll_cons_mk (Below.trod desTwice_laid (by kernel_rfl) (of_decide_eq_true (by kernel_rfl)) k1 bel lt1) trodAll_mk0)), rfl, bel.frame _, fun h => by cases h⟩

theorem desTwice_over : Rows.desTwiceRow.holds Try.pinned (OpenSpec.ofChange Rows.desTwiceSpec) :=
  OpenClaim.holds_of_wide 11 Try.f11 rfl rfl rfl rfl rfl rfl rfl ⟨rfl, rfl, rfl, rfl, rfl⟩ rfl rfl rfl rfl rfl (by kernel_rfl) Try.func11 (by kernel_rfl)
    (of_decide_eq_true (by kernel_rfl)) (by unfold Func.isWrapper; first | (rw [if_pos (by decide +kernel)]; kernel_rfl) | (rw [if_neg (by decide +kernel)]; exact ⟨rfl, rfl⟩))
    (fun os started H enc _ => desTwice_lifted os started H enc)

theorem desTwice_proved : Rows.DesTwiceSaid := desTwice_over
#print axioms desTwice_proved
end Go.Proofs.Ytififgodhnelgaa
