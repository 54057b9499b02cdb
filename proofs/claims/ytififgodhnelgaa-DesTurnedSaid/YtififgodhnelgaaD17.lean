/-
  DES: with all bits of key and block turned, all bits of what comes out are turned; two blocks come out unlike just if they are.
-/
import Derived.Test.YtififgodhnelgaaD12
import Derived.Test.YtififgodhnelgaaD10
import Derived.Test.YtififgodhnelgaaAr
import Derived.Test.YtififgodhnelgaaRows
namespace Go.Proofs.Ytififgodhnelgaa
open Go V Go.ChangeShapes Go.WideShapes Go.ChangeAt Go.RowKit

theorem cell8 {w : World} {b : Nat} {t : TypeId} {l : List UInt8} (h : Blk w b t (l.map vb)) {i : Nat} (hi : i < l.length) : w.cell? ⟨b, 0 + i, none⟩ = some (vb (l.getD i 0)) := by
  rw [Nat.zero_add, h.cell, List.getElem?_map, getD_some8 hi]; rfl
theorem not_take (l : List UInt8) {i : Nat} (hi : i < l.length) : ((l.take (i + 1)).map (~~~ ·)) = (l.take i).map (~~~ ·) ++ [~~~ (l.getD i 0)] := by
  rw [List.take_add_one, getD_some8 hi, List.map_append]; rfl

set_option maxHeartbeats 2000000 in
theorem desTurned_ok (W : World) (k : List UInt8) (hk : k.length = 7) (a : List UInt8) (ha : a.length = 8) (b : List UInt8) (hb : b.length = 8) :
    VC Try.prog 10 [.agg (k.map vb).toArray, .agg (a.map vb).toArray, .agg (b.map vb).toArray] W (fun v w' => v = .bool true ∧ Keep No W w') := by
  refine VC.of tt_ok Try.func10 rfl (by decide +kernel) (Nat.le_of_ble_eq_true rfl) ?_; (conv => whnf)
  refine ⟨fun w1 hb1 kp => ?_⟩; have hb1_lt := Blk.lt hb1; have kp_sz := kp.size; (conv => whnf)
  have hb1 : Blk w1 W.heap.size 54 (k.map vb) := hb1
  (conv => whnf)
  refine ⟨fun w2 hb2 k2 => ?_⟩; have hb2_lt := Blk.lt hb2; have k2_sz := k2.size; (conv => whnf)
  have hb2 : Blk w2 w1.heap.size 55 (a.map vb) := hb2
  have kp := kp.keepNo k2; have hb1 := hb1.keepNo k2
  (conv => whnf)
  refine ⟨fun w3 hb3 k3 => ?_⟩; have hb3_lt := Blk.lt hb3; have k3_sz := k3.size; (conv => whnf)
  have hb3 : Blk w3 w2.heap.size 55 (b.map vb) := hb3
  have kp := kp.keepNo k3; have hb1 := hb1.keepNo k3; have hb2 := hb2.keepNo k3
  (conv => whnf)
  refine (awake8_ok w3).mono ?_
  rintro v w4 ⟨rfl, k4⟩
  have kp := kp.keepNo k4; have hb1 := hb1.keepNo k4; have hb2 := hb2.keepNo k4; have hb3 := hb3.keepNo k4
  (conv => whnf)
  refine VLoop.by_ tt_ok (S := Nat × Option Addr × Nat) (fun | (i, Al, cl) => [(3, .pointer (some ⟨W.heap.size, 0, none⟩)), (4, .pointer (some ⟨w1.heap.size, 0, none⟩)), (5, .pointer (some ⟨w2.heap.size, 0, none⟩)), (7, .slice Al i cl), (8, .slice none 0 0), (9, .int .i64 i)])
    (fun | (i, Al, cl) => fun w' => i ≤ 7 ∧ Own w' w4.heap.size T8 1 Al i cl (((k.take i).map (~~~ ·)).map vb) ∧ Keep No w4 w') (fun | (i, _) => 7 - i)
    (0, none, 0) ⟨rfl, rfl, rfl, rfl, rfl, rfl, trivial⟩ ⟨by omega, Own.nil _ _ _ _, Keep.refl _ _⟩ ?_
  rintro ⟨i, Al, cl⟩ wi ⟨hi, hown, ki⟩
  (conv => whnf)
  refine VCmp.mk (fun h => ?_) (fun h => ?_) <;> (conv => whnf)
  · refine VIdxA.one i rfl (by omega) rfl ?_
    (conv => whnf)
    refine VLoad.by_ (cell8 (hb1.keepNo ki) (by omega)) ?_
    (conv => whnf)
    refine VRes.not8 rfl ?_
    (conv => whnf)
    refine VFill.by_ rfl ?_; (conv => whnf)
    refine ⟨fun w5 hb5 k5 => ?_⟩
    (conv => whnf)
    refine appBd (w0 := w4) (ys := [~~~ (k.getD i 0)]) (ki.trans k5) (hown.keepNo k5) (Sl.ofBlk (n := 1) (size := 1) hb5 rfl) (by omega) ?_
    intro A6 c6 w6 ho6 k6 _
    (conv => whnf)
    refine VRes.i64 (by omega) ?_; (conv => whnf)
    exact ⟨(i + 1, A6, c6), ⟨rfl, rfl, rfl, rfl, rfl, rfl, trivial⟩, ⟨by omega, by rw [not_take k (by omega)]; exact ho6, k6⟩, by dsimp only; omega⟩
  obtain rfl : i = 7 := by omega
  rw [List.take_of_length_le (by omega)] at hown
  have hK := Sl.ofOwn hown
  have kp := kp.keepNo ki; have hb1 := hb1.keepNo ki; have hb2 := hb2.keepNo ki; have hb3 := hb3.keepNo ki
  refine VLoop.by_ tt_ok (S := Nat × Option Addr × Nat) (fun | (i, Ax, cx) => [(3, .pointer (some ⟨W.heap.size, 0, none⟩)), (4, .pointer (some ⟨w1.heap.size, 0, none⟩)), (5, .pointer (some ⟨w2.heap.size, 0, none⟩)), (7, .slice Al 7 cl), (8, .slice Ax i cx), (10, .int .i64 i)])
    (fun | (i, Ax, cx) => fun w' => i ≤ 8 ∧ Own w' wi.heap.size T8 1 Ax i cx (((a.take i).map (~~~ ·)).map vb) ∧ Keep No wi w') (fun | (i, _) => 8 - i)
    (0, none, 0) ⟨rfl, rfl, rfl, rfl, rfl, rfl, trivial⟩ ⟨by omega, Own.nil _ _ _ _, Keep.refl _ _⟩ ?_
  rintro ⟨i, Ax, cx⟩ wj ⟨hi, hown, kj⟩
  (conv => whnf)
  refine VCmp.mk (fun h => ?_) (fun h => ?_) <;> (conv => whnf)
  · refine VIdxA.one i rfl (by omega) rfl ?_
    (conv => whnf)
    refine VLoad.by_ (cell8 (hb2.keepNo kj) (by omega)) ?_
    (conv => whnf)
    refine VRes.not8 rfl ?_
    (conv => whnf)
    refine VFill.by_ rfl ?_; (conv => whnf)
    refine ⟨fun w5 hb5 k5 => ?_⟩
    (conv => whnf)
    refine appBd (w0 := wi) (ys := [~~~ (a.getD i 0)]) (kj.trans k5) (hown.keepNo k5) (Sl.ofBlk (n := 1) (size := 1) hb5 rfl) (by omega) ?_
    intro A6 c6 w6 ho6 k6 _
    (conv => whnf)
    refine VRes.i64 (by omega) ?_; (conv => whnf)
    exact ⟨(i + 1, A6, c6), ⟨rfl, rfl, rfl, rfl, rfl, rfl, trivial⟩, ⟨by omega, by rw [not_take a (by omega)]; exact ho6, k6⟩, by dsimp only; omega⟩
  obtain rfl : i = 8 := by omega
  rw [List.take_of_length_le (by omega)] at hown
  have hX := Sl.ofOwn hown
  have kp := kp.keepNo kj; have hb1 := hb1.keepNo kj; have hb2 := hb2.keepNo kj; have hb3 := hb3.keepNo kj; have hK := hK.keepNo kj
  refine VDraw.by_ tt_ok rfl (.take 0 (.take 1 (.one 2 (.take 3 (.take 4 (.take 5 (.take 6 (.take 7 .done)))))))) (by decide +kernel) _ (fun x h1 h2 h3 h4 => Keep.ofHeap h1 h2 h3 h4) (fun wd hd kd => ?_)
  have kp := kp.keepNo kd; have hb1 := hb1.keepNo kd; have hb2 := hb2.keepNo kd; have hb3 := hb3.keepNo kd; have hK := hK.keepNo kd; have hX := hX.keepNo kd
  (conv => whnf)
  refine ⟨⟨0, 7, rfl, rfl, by omega, by omega, fun A' hA' => ?_⟩⟩
  have hA' : A' = some ⟨W.heap.size, 0, none⟩ := hA'
  subst hA'
  have sk := Sl.ofBlk (n := 7) (size := 1) hb1 (by rw [List.length_map, hk])
  (conv => whnf)
  refine ⟨⟨0, 8, rfl, rfl, by omega, by omega, fun A' hA' => ?_⟩⟩
  have hA' : A' = some ⟨w1.heap.size, 0, none⟩ := hA'
  subst hA'
  have sa := Sl.ofBlk (n := 8) (size := 1) hb2 (by rw [List.length_map, ha])
  (conv => whnf)
  refine (encrypt_ok wd sk sa (by omega) (by omega)).mono ?_
  rintro v w5 ⟨hv, k5⟩
  rw [if_pos ⟨rfl, rfl⟩] at hv
  obtain ⟨p, rfl, hp⟩ := hv
  have kp := kp.keepNo k5; have hb1 := hb1.keepNo k5; have hb2 := hb2.keepNo k5; have hb3 := hb3.keepNo k5; have hK := hK.keepNo k5; have hX := hX.keepNo k5; have sk := sk.keepNo k5
  have sp := Sl.ofBlk (n := 8) (size := 1) hp (by rw [List.length_map, desP_len])
  (conv => whnf)
  refine VOwe.same (kd.trans k5) ?_
  (conv => whnf)
  refine (encrypt_ok w5 hK hX (by omega) (by omega)).mono ?_
  rintro v w6 ⟨hv, k6⟩
  rw [if_pos ⟨rfl, rfl⟩, desP_not hk ha] at hv
  obtain ⟨q, rfl, hq⟩ := hv
  have kp := kp.keepNo k6; have hb1 := hb1.keepNo k6; have hb2 := hb2.keepNo k6; have hb3 := hb3.keepNo k6; have sk := sk.keepNo k6; have sp := sp.keepNo k6
  have sq := Sl.ofBlk (n := 8) (size := 1) hq (by rw [List.length_map, List.length_map, desP_len])
  (conv => whnf)
  refine VDraw.by_ tt_ok rfl (.take 0 (.take 1 (.one 2 (.take 3 (.take 4 (.take 5 (.take 6 (.take 7 .done)))))))) (by decide +kernel) _ (fun x h1 h2 h3 h4 => Keep.ofHeap h1 h2 h3 h4) (fun wd hd kd => ?_)
  have kp := kp.keepNo kd; have hb1 := hb1.keepNo kd; have hb2 := hb2.keepNo kd; have hb3 := hb3.keepNo kd; have sk := sk.keepNo kd; have sp := sp.keepNo kd; have sq := sq.keepNo kd
  (conv => whnf)
  refine ⟨⟨0, 7, rfl, rfl, by omega, by omega, fun A' hA' => ?_⟩⟩
  have hA' : A' = some ⟨W.heap.size, 0, none⟩ := hA'
  subst hA'
  (conv => whnf)
  refine ⟨⟨0, 8, rfl, rfl, by omega, by omega, fun A' hA' => ?_⟩⟩
  have hA' : A' = some ⟨w2.heap.size, 0, none⟩ := hA'
  subst hA'
  have sb := Sl.ofBlk (n := 8) (size := 1) hb3 (by rw [List.length_map, hb])
  (conv => whnf)
  refine (encrypt_ok wd sk sb (by omega) (by omega)).mono ?_
  rintro v w7 ⟨hv, k7⟩
  rw [if_pos ⟨rfl, rfl⟩] at hv
  obtain ⟨r, rfl, hr⟩ := hv
  have kp := kp.keepNo k7; have hb1 := hb1.keepNo k7; have hb2 := hb2.keepNo k7; have hb3 := hb3.keepNo k7; have sp := sp.keepNo k7; have sq := sq.keepNo k7
  have sr := Sl.ofBlk (n := 8) (size := 1) hr (by rw [List.length_map, desP_len])
  (conv => whnf)
  refine VOwe.same (kd.trans k7) ?_
  (conv => whnf)
  refine VCmp.mk (fun h => absurd rfl h) (fun _ => ?_); (conv => whnf)
  refine VCmp.mk (fun h => absurd rfl h) (fun _ => ?_); (conv => whnf)
  refine VCmp.mk (fun h => absurd rfl h) (fun _ => ?_); (conv => whnf)
  refine VCmp.mk (fun h => absurd rfl h) (fun _ => ?_); (conv => whnf)
  refine VCmp.mk (fun h => absurd rfl h) (fun _ => ?_); (conv => whnf)
  have hpl := desP_len k a
  refine VLoop.by_ tt_ok (S := Nat) (fun i => [(4, .pointer (some ⟨w1.heap.size, 0, none⟩)), (5, .pointer (some ⟨w2.heap.size, 0, none⟩)), (11, .slice (some ⟨p, 0, none⟩) 8 8), (13, .slice (some ⟨q, 0, none⟩) 8 8), (15, .slice (some ⟨r, 0, none⟩) 8 8), (17, .int .i64 i)])
    (fun i w' => i ≤ 8 ∧ Keep No w7 w') (fun i => 8 - i) 0
    ⟨rfl, rfl, rfl, rfl, rfl, rfl, trivial⟩ ⟨by omega, Keep.refl _ _⟩ ?_
  rintro i wl ⟨hi, kl⟩
  have sp' := sp.keepNo kl
  have sq' := sq.keepNo kl
  (conv => whnf)
  refine VCmp.mk (fun h => ?_) (fun h => ?_) <;> (conv => whnf)
  · refine VDraw.by_ tt_ok rfl (.take 0 (.take 1 (.take 2 (.take 3 (.take 4 (.take 5 (.take 6 (.take 7 (.take 8 (.take 9 .done)))))))))) (by decide +kernel) _ (fun x h1 h2 h3 h4 => Keep.ofHeap h1 h2 h3 h4) (fun wd hd kd => ?_)
    have kl := kl.trans kd
    (conv => whnf)
    refine VIdx.sl (sp') (i) (by first | rfl | omega) (by omega) (fun b_ o_ hA_ hc_ => ?_); (conv => whnf); refine VLoad.keep hc_ ?_; (conv => whnf)
    refine VIdx.sl sq' i rfl (by omega) (fun b_ o_ hA_ hc_ => ?_)
    (conv => whnf)
    refine VLoad.keep hc_ ?_
    rw [getD_map8 _ (by omega)]
    (conv => whnf)
    refine VRes.not8 rfl ?_
    rw [UInt8.not_not]
    (conv => whnf)
    refine VCmp.mk (fun h => absurd rfl h) (fun _ => ?_); (conv => whnf)
    refine VRes.i64 (by omega) ?_; (conv => whnf)
    exact ⟨i + 1, ⟨rfl, rfl, rfl, rfl, rfl, rfl, trivial⟩, ⟨by omega, kl⟩, by omega⟩
  have sr' := sr.keepNo kl
  have kp := kp.keepNo kl; have hb2 := hb2.keepNo kl; have hb3 := hb3.keepNo kl
  have hfin : (decide (desP k a = desP k b) == decide (a = b)) = true := by
    by_cases h : a = b
    · subst h; simp
    · rw [decide_eq_false h, decide_eq_false (fun e => h (desP_inj ha hb e))]; rfl
  refine VDraw.by_ tt_ok rfl (.take 0 (.take 1 (.take 3 (.take 4 (.two 2 (.one 5 (.take 6 (.take 7 .done))) 5 (.one 2 (.take 6 (.take 7 .done)))))))) (by decide +kernel) _ (fun x h1 h2 h3 h4 => Keep.ofHeap h1 h2 h3 h4) (fun wd hd kd => ?_)
  have kp := kp.trans kd
  (conv => whnf)
  refine VLoads.keepBlk hb2 (by rw [List.length_map, ha]; rfl) ?_
  (conv => whnf)
  refine VLoads.keepBlk hb3 (by rw [List.length_map, hb]; rfl) ?_
  (conv => whnf)
  refine ⟨?_, ?_⟩
  · refine (same_ok wd (sp'.keepNo kd) (sr'.keepNo kd) (by omega)).mono ?_
    rintro v w8 ⟨rfl, k8⟩
    (conv => whnf)
    refine VOwe.same (kd.trans k8) ?_
    (conv => whnf)
    refine VOther.eqArr8 (a := a) (b := b) rfl rfl rfl Try.underlying55 Try.underlying5 (by kernel_rfl) (by kernel_rfl) ha hb ?_
    (conv => whnf)
    refine VOwe.same (kd.trans k8) ?_
    (conv => whnf)
    exact ⟨by rw [hfin]; rfl, kp.trans k8⟩
  · refine VOther.eqArr8 (a := a) (b := b) rfl rfl rfl Try.underlying55 Try.underlying5 (by kernel_rfl) (by kernel_rfl) ha hb ?_
    (conv => whnf)
    refine VOwe.same kd ?_
    (conv => whnf)
    refine (same_ok wd (sp'.keepNo kd) (sr'.keepNo kd) (by omega)).mono ?_
    rintro v w8 ⟨rfl, k8⟩
    (conv => whnf)
    refine VOwe.same (kd.trans k8) ?_
    (conv => whnf)
    exact ⟨by rw [hfin]; rfl, kp.trans k8⟩

/-! ### The statement -/
theorem desTurned_own : ownKnob Try.prog.godebug = none := by kernel_rfl
theorem desTurned_laid : laidOutB Try.prog = true := by kernel_rfl
set_option maxRecDepth 100000 in
theorem desTurned_lifted (os : Os) (started : os.Started) (H : Type) (enc : TypeId × Value → H) :
    ReturnsInHanded {} Try.checked os 10 .any (Rows.desTurnedSpec.pre6 enc Try.prog Try.f10 Rows.desTurnedRow.domain false) (Rows.desTurnedSpec.post enc Try.prog Try.f10 false true false false) := by
  refine returnsInHanded_of_change (C := Try.checked) desTurned_own started (by kernel_rfl) Try.func10
    (ChangeSpec.witness6 (enc := enc) (C := Try.checked) false ⟨#[], #[.agg #[.int .u8 0, .int .u8 0, .int .u8 0, .int .u8 0, .int .u8 0, .int .u8 0, .int .u8 0], .agg #[.int .u8 0, .int .u8 0, .int .u8 0, .int .u8 0, .int .u8 0, .int .u8 0, .int .u8 0, .int .u8 0], .agg #[.int .u8 0, .int .u8 0, .int .u8 0, .int .u8 0, .int .u8 0, .int .u8 0, .int .u8 0, .int .u8 0]], []⟩ 8 (by kernel_rfl) (by kernel_rfl) (by kernel_rfl) (by kernel_rfl)) ?_
  intro W base args ds gs before hval0 hW hcnd _
  have hval : ∀ (j : Nat) t v, Try.f10.params[j]? = some t → args[j]? = some v → Value.okWide Try.prog W .any base t v := hval0
  have hW' := hW
  obtain ⟨p, q, hA0, hV, rfl, hfz, hnd⟩ := hW
  have hA : DataW.TrodAll enc Try.prog W 0 (fun _ => true) true Try.f10.params.toList args.toList ds p := hA0
  rw [Try.params10] at hA hval
  obtain ⟨v0, vs0, d0, ds0, p0, q0, hargs, rfl, rfl, h0, r0⟩ := trodAll_cons hA
  obtain ⟨v1, vs1, d1, ds1, p1, q1, rfl, rfl, rfl, h1, r1⟩ := trodAll_cons r0
  obtain ⟨v2, vs2, d2, ds2, p2, q2, rfl, rfl, rfl, h2, r2⟩ := trodAll_cons r1
  obtain ⟨rfl, rfl, rfl⟩ := trodAll_nil r2
  obtain rfl : args = #[v0, v1, v2] := by cases args; simp_all
  obtain ⟨rfl, rfl⟩ := trodVars_none hV
  have k0 := h0
  have lt0 : ∀ x ∈ p0, x.block < W.heap.size := by obtain ⟨m, hm⟩ := k0; exact DataW.trod_lt m _ _ _ hm
  obtain ⟨cs0, rfl⟩ := okWide_arr8 Try.underlying54 (hval 0 54 v0 rfl rfl)
  obtain ⟨fuel0, hf0⟩ := h0
  obtain ⟨l0, e0, n0⟩ := open_arr8 Try.underlying54 Try.underlying5 (by kernel_rfl) (by kernel_rfl) hf0
  subst e0
  have k1 := h1
  have lt1 : ∀ x ∈ p1, x.block < W.heap.size := by obtain ⟨m, hm⟩ := k1; exact DataW.trod_lt m _ _ _ hm
  obtain ⟨cs1, rfl⟩ := okWide_arr8 Try.underlying55 (hval 1 55 v1 rfl rfl)
  obtain ⟨fuel1, hf1⟩ := h1
  obtain ⟨l1, e1, n1⟩ := open_arr8 Try.underlying55 Try.underlying5 (by kernel_rfl) (by kernel_rfl) hf1
  subst e1
  have k2 := h2
  have lt2 : ∀ x ∈ p2, x.block < W.heap.size := by obtain ⟨m, hm⟩ := k2; exact DataW.trod_lt m _ _ _ hm
  obtain ⟨cs2, rfl⟩ := okWide_arr8 Try.underlying55 (hval 2 55 v2 rfl rfl)
  obtain ⟨fuel2, hf2⟩ := h2
  obtain ⟨l2, e2, n2⟩ := open_arr8 Try.underlying55 Try.underlying5 (by kernel_rfl) (by kernel_rfl) hf2
  subst e2
  clear hA0 hval0
  refine (VC.law (desTurned_ok W l0 n0 l1 n1 l2 n2)).mono fun e W' ⟨he, bel⟩ => ?_
  subst he
  exact ⟨_, rfl, _, _, _, [], _, [], hW', trodAll_mk1 (shut_bool Try.underlying4 _), (trodAll_cons_mk (Below.trod desTurned_laid (by kernel_rfl) (of_decide_eq_true (by kernel_rfl)) k0 bel lt0) (trodAll_cons_mk (Below.trod desTurned_laid (by kernel_rfl) (of_decide_eq_true (by kernel_rfl)) k1 bel lt1) (trodAll_cons_mk (Below.trod desTurned_laid (by kernel_rfl) (of_decide_eq_true (by kernel_rfl)) k2 bel lt2) trodAll_mk0))), rfl, bel.frame _, fun h => by cases h⟩

theorem desTurned_over : Rows.desTurnedRow.holds Try.pinned (OpenSpec.ofChange Rows.desTurnedSpec) :=
  OpenClaim.holds_of_wide 10 Try.f10 rfl rfl rfl rfl rfl rfl rfl ⟨rfl, rfl, rfl, rfl, rfl⟩ rfl rfl rfl rfl rfl (by kernel_rfl) Try.func10 (by kernel_rfl)
    (of_decide_eq_true (by kernel_rfl)) (by unfold Func.isWrapper; first | (rw [if_pos (by decide +kernel)]; kernel_rfl) | (rw [if_neg (by decide +kernel)]; exact ⟨rfl, rfl⟩))
    (fun os started H enc _ => desTurned_lifted os started H enc)

theorem desTurned_proved : Rows.DesTurnedSaid := desTurned_over
#print axioms desTurned_proved
end Go.Proofs.Ytififgodhnelgaa
