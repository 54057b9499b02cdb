/-
  Law 9: ChapParts.
-/
import Derived.Test.YtoeijgbjgbgelaaDoorU6
import Derived.Test.YtoeijgbjgbgelaaDoorVl
namespace Go.Proofs.YtoeijgbjgbgelaaDoor
open Go V Go.ChangeShapes Go.WideShapes Go.ChangeAt Go.RowKit

theorem half_of {z : Int} (h : (Lit.int .u16 z).wf = true) : ∃ x : BitVec 16, z = (x.toNat : Int) := by
  have hb : 0 ≤ z ∧ z ≤ 65535 := by
    have := h
    simp [Lit.wf, IntKind.min, IntKind.max, IntKind.signed, IntKind.bits] at this
    omega
  refine ⟨BitVec.ofNat 16 z.toNat, ?_⟩
  rw [BitVec.toNat_ofNat, Nat.mod_eq_of_lt (by show z.toNat < 2 ^ 16; omega)]
  omega

theorem part_same {h h' x : List UInt8} {at_ : Nat} (hl : h.length = 16) (hl' : h'.length = 16) (he : ∀ i, i ≠ at_ → h.getD i 0 = h'.getD i 0) (i : Nat) (hi : i < 3) (hne : i ≠ at_ / 7) :
    desP (((h ++ List.replicate 5 0).take (7 * i + 7)).drop (7 * i)) x = desP (((h' ++ List.replicate 5 0).take (7 * i + 7)).drop (7 * i)) x := by
  congr 1
  apply List.ext_getElem?
  intro j
  rw [List.getElem?_drop, List.getElem?_drop]
  by_cases hj : 7 * i + j < 7 * i + 7
  · rw [List.getElem?_take_of_lt hj, List.getElem?_take_of_lt hj]
    by_cases h2 : 7 * i + j < 16
    · rw [List.getElem?_append_left (by omega), List.getElem?_append_left (by omega), getD_some8 (by omega), getD_some8 (by omega), he _ (by omega)]
    · rw [List.getElem?_append_right (by omega), List.getElem?_append_right (by omega), hl, hl']
  · rw [List.getElem?_take, List.getElem?_take, if_neg hj, if_neg hj]

set_option maxHeartbeats 2000000 in
theorem partsWell_ok (w : World) (hw : LawOk w) (x h : List UInt8) (hx : x.length = 8) (hh : h.length = 16) (at_ : Nat) (hat : at_ < 16) (b : UInt8) :
    VC Tryd.prog 11 [.agg (x.map vb).toArray, .agg (h.map vb).toArray, .int .i64 at_, vb b] w (fun v w' => v = .bool true ∧ Keep No w w') := by
  have hw0 := hw
  refine VC.of tt_ok Tryd.func11 rfl (by decide +kernel) (Nat.le_of_ble_eq_true rfl) ?_; (conv => whnf)
  refine ⟨fun w1 hb1 kp => ?_⟩; have hb1_lt := Blk.lt hb1; have kp_sz := kp.size; (conv => whnf)
  have hb1 : Blk w1 w.heap.size 33 (x.map vb) := hb1
  (conv => whnf)
  have kp_sz0 := Blk.lt hb1
  refine ⟨fun w2 hb2 k2 => ?_⟩; have hb2_lt := Blk.lt hb2; have k2_sz := k2.size; (conv => whnf)
  have hb2 : Blk w2 w1.heap.size 34 (h.map vb) := hb2
  have kp := kp.keepNo k2; have hb1 := hb1.keepNo k2
  have hw := hw.keepNo kp
  (conv => whnf)
  refine VDraw.by_ tt_ok rfl (.take 0 (.take 1 (.one 2 (.take 3 (.take 4 (.take 5 (.take 6 (.take 7 .done)))))))) (by decide +kernel) _ (fun x h1 h2 h3 h4 => Keep.ofHeap h1 h2 h3 h4) (fun wd hd kd => ?_)
  have kp := kp.keepNo kd; have hb1 := hb1.keepNo kd; have hb2 := hb2.keepNo kd
  have hw := hw.keepNo kd
  (conv => whnf)
  refine ⟨⟨0, 8, rfl, rfl, by omega, by omega, fun A' hA' => ?_⟩⟩
  have hA' : A' = some ⟨w.heap.size, 0, none⟩ := hA'
  subst hA'
  have sx := Sl.ofBlk (n := 8) (size := 1) hb1 (by rw [List.length_map, hx])
  (conv => whnf)
  refine ⟨⟨0, 16, rfl, rfl, by omega, by omega, fun A' hA' => ?_⟩⟩
  have hA' : A' = some ⟨w1.heap.size, 0, none⟩ := hA'
  subst hA'
  have sh := Sl.ofBlk (n := 16) (size := 1) hb2 (by rw [List.length_map, hh])
  (conv => whnf)
  refine (Answer_ok wd sx sh (by omega)).mono ?_
  rintro v w3 ⟨⟨A3, c3, rfl, ho3⟩, k3⟩
  have kd_sz := kd.size
  have k2_sz := k2.size
  have kp := kp.keepNo k3; have hb1 := hb1.keepNo k3; have hb2 := hb2.keepNo k3
  have hw := hw.keepNo k3
  (conv => whnf)
  refine VOwe.same (kd.trans k3) ?_
  (conv => whnf)
  have hb2lt := Blk.lt hb2
  refine VIdxA.one at_ rfl (by omega) rfl ?_
  (conv => whnf)
  refine VLoad.by_ (v := vb (h.getD at_ 0)) (by rw [Nat.zero_add, hb2.cell, List.getElem?_map, getD_some8 (by omega)]; rfl) ?_
  (conv => whnf)
  refine VRes.xor8 (y := b) rfl ?_
  (conv => whnf)
  refine VIdxA.one at_ rfl (by omega) rfl ?_
  rw [Nat.zero_add]
  (conv => whnf)
  refine VStore.one hb2 (by rw [List.length_map]; omega) ?_
  intro w4 hb4 k4 _
  obtain ⟨h', hh'⟩ : ∃ l, l = h.set at_ (h.getD at_ 0 ^^^ b) := ⟨_, rfl⟩
  have hb4 : Blk w4 w1.heap.size 34 (h'.map vb) := by rw [hh', List.map_set]; exact hb4
  have hl' : h'.length = 16 := by rw [hh', List.length_set, hh]
  have hset : ∀ i, i ≠ at_ → h.getD i 0 = h'.getD i 0 := by
    intro i hi
    rw [hh', List.getD_eq_getElem?_getD, List.getD_eq_getElem?_getD, List.getElem?_set, if_neg (fun e => hi e.symm)]
  have kq := kp.fresh_ k4 (by omega)
  have hb1 := hb1.keep k4 (by omega)
  have ho4 := ho3.keep k4 (fun a ha e => by have h3 := (ho3.base_ ha).1; have e : a.block = w1.heap.size := e; omega)
  (conv => whnf)
  refine VDraw.by_ tt_ok rfl (.take 0 (.take 1 (.one 2 (.take 3 (.take 4 (.take 5 (.take 6 (.take 7 .done)))))))) (by decide +kernel) _ (fun x h1 h2 h3 h4 => Keep.ofHeap h1 h2 h3 h4) (fun wd hd kd => ?_)
  have kq := kq.trans kd
  have hb1 := hb1.keepNo kd
  have hb4 := hb4.keepNo kd
  have ho4 := ho4.keepNo kd
  (conv => whnf)
  refine ⟨⟨0, 8, rfl, rfl, by omega, by omega, fun A' hA' => ?_⟩⟩
  have hA' : A' = some ⟨w.heap.size, 0, none⟩ := hA'
  subst hA'
  have sx := Sl.ofBlk (n := 8) (size := 1) hb1 (by rw [List.length_map, hx])
  (conv => whnf)
  refine ⟨⟨0, 16, rfl, rfl, by omega, by omega, fun A' hA' => ?_⟩⟩
  have hA' : A' = some ⟨w1.heap.size, 0, none⟩ := hA'
  subst hA'
  have sh := Sl.ofBlk (n := 16) (size := 1) hb4 (by rw [List.length_map, hl'])
  (conv => whnf)
  refine (Answer_ok wd sx sh (by omega)).mono ?_
  rintro v w5 ⟨⟨A5, c5, rfl, ho5⟩, k5⟩
  have kq := kq.trans k5
  have ho4 := ho4.keepNo k5
  (conv => whnf)
  refine VOwe.same (kd.trans k5) ?_
  (conv => whnf)
  refine VCmp.mk (fun h => absurd rfl h) (fun _ => ?_); (conv => whnf)
  refine VCmp.mk (fun h => absurd rfl h) (fun _ => ?_); (conv => whnf)
  refine VCmp.mk (fun h => absurd rfl h) (fun _ => ?_); (conv => whnf)
  refine VCmp.mk (fun h => absurd rfl h) (fun _ => ?_); (conv => whnf)
  refine (awake9_ok w5 (hw0.keepNo kq)).mono ?_
  rintro v w6 ⟨rfl, k6⟩
  have kq := kq.trans k6
  have ho4 := ho4.keepNo k6
  have ho5 := ho5.keepNo k6
  have s4 := Sl.ofOwn ho4
  have s5 := Sl.ofOwn ho5
  have c4le := ho4.le
  have c5le := ho5.le
  (conv => whnf)
  refine VLoop.by_ tt_ok (S := Nat) (fun i => [(2, .int .i64 at_), (9, .slice A3 24 c3), (11, .slice A5 24 c5), (13, .int .i64 i)])
    (fun i w' => i ≤ 3 ∧ Keep No w6 w') (fun i => 3 - i) 0
    ⟨rfl, rfl, rfl, rfl, trivial⟩ ⟨by omega, Keep.refl _ _⟩ ?_
  rintro i wi ⟨hi, ki⟩
  (conv => whnf)
  refine VCmp.mk (fun hlt => ?_) (fun hlt => ?_) <;> (conv => whnf)
  rotate_left 1
  · exact ⟨rfl, kq.trans ki⟩
  have s4' := s4.keepNo ki
  have s5' := s5.keepNo ki
  have q7 : (at_ : Int).tdiv 7 = ((at_ / 7 : Nat) : Int) := by rw [Int.tdiv_eq_ediv_of_nonneg (by omega)]; rfl
  refine VDraw.by_ tt_ok rfl (.take 0 (.take 1 (.take 2 (.take 3 (.take 4 (.take 5 (.take 6 (.take 7 (.take 8 (.take 9 (.take 10 (.take 11 (.take 12 (.take 13 (.take 14 (.take 15 (.take 16 (.take 17 (.take 18 (.one 19 (.take 20 (.take 21 .done)))))))))))))))))))))) (by decide +kernel) _ (fun x h1 h2 h3 h4 => Keep.ofHeap h1 h2 h3 h4) (fun wd hd kd => ?_)
  have ki := ki.trans kd
  (conv => whnf)
  refine VReq.mk (by omega) ?_
  rw [q7]
  refine VRes.i64 (by omega) ?_; (conv => whnf)
  refine VCmp.mk (fun hne => ?_) (fun hne => ?_) <;> (conv => whnf)
  · refine VRes.i64 (by omega) ?_; (conv => whnf)
    refine VRes.i64 (by omega) ?_; (conv => whnf)
    refine VRes.i64 (by omega) ?_; (conv => whnf)
    refine VCut.by_ (8 * i) (8 * i + 8) (by omega) (by omega) (by omega) (by omega) ?_
    intro A7 hA7
    have s7 := Sl.cut8 s4' (l := 8 * i) (h := 8 * i + 8) (by omega) (by omega) c4le (A' := A7) hA7
    rw [ansK_part h x 3 i (by omega)] at s7
    (conv => whnf)
    refine VRes.i64 (by omega) ?_; (conv => whnf)
    refine VRes.i64 (by omega) ?_; (conv => whnf)
    refine VRes.i64 (by omega) ?_; (conv => whnf)
    refine VCut.by_ (8 * i) (8 * i + 8) (by omega) (by omega) (by omega) (by omega) ?_
    intro A8 hA8
    have s8 := Sl.cut8 s5' (l := 8 * i) (h := 8 * i + 8) (by omega) (by omega) c5le (A' := A8) hA8
    rw [ansK_part h' x 3 i (by omega), ← part_same hh hl' hset i (by omega) (by omega)] at s8
    (conv => whnf)
    refine (same_ok wd (s7.keepNo kd) (s8.keepNo kd) (by omega)).mono ?_
    rintro v w9 ⟨rfl, k9⟩
    rw [decide_eq_true rfl]
    (conv => whnf)
    refine VOwe.same (kd.trans k9) ?_
    (conv => whnf)
    refine VRes.i64 (by omega) ?_; (conv => whnf)
    exact ⟨i + 1, ⟨rfl, rfl, rfl, rfl, trivial⟩, ⟨by omega, ki.trans k9⟩, by omega⟩
  · refine VRes.i64 (by omega) ?_; (conv => whnf)
    exact ⟨i + 1, ⟨rfl, rfl, rfl, rfl, trivial⟩, ⟨by omega, ki⟩, by omega⟩

theorem chapParts_ok (W : World) (hw : LawOk W) (x : List UInt8) (hx : x.length = 8) (h : List UInt8) (hh : h.length = 16) (m : BitVec 16) :
    VC Tryd.prog 5 [.agg (x.map vb).toArray, .agg (h.map vb).toArray, .int .u16 (m.toNat : Int)] W (fun v w' => v = .bool true ∧ Keep No W w') := by
  have hm := m.isLt
  refine VC.of tt_ok Tryd.func5 rfl (by decide +kernel) (Nat.le_of_ble_eq_true rfl) ?_; (conv => whnf)
  refine ⟨fun w1 hb1 kp => ?_⟩; have hb1_lt := Blk.lt hb1; have kp_sz := kp.size; (conv => whnf)
  have hb1 : Blk w1 W.heap.size 33 (x.map vb) := hb1
  (conv => whnf)
  refine ⟨fun w2 hb2 k2 => ?_⟩; have hb2_lt := Blk.lt hb2; have k2_sz := k2.size; (conv => whnf)
  have hb2 : Blk w2 w1.heap.size 34 (h.map vb) := hb2
  have kp := kp.keepNo k2; have hb1 := hb1.keepNo k2
  (conv => whnf)
  refine (awake9_ok w2 (hw.keepNo kp)).mono ?_
  rintro v w3 ⟨rfl, k3⟩
  have kp := kp.keepNo k3; have hb1 := hb1.keepNo k3; have hb2 := hb2.keepNo k3
  (conv => whnf)
  refine VLoads.blk hb1 (by rw [List.length_map, hx]; rfl) ?_
  (conv => whnf)
  refine VLoads.blk hb2 (by rw [List.length_map, hh]; rfl) ?_
  (conv => whnf)
  refine VRes.i64 (by omega) ?_
  (conv => whnf)
  refine VReq.mk (by omega) ?_
  have q : ((m.toNat : Nat) : Int).tmod 16 = ((m.toNat % 16 : Nat) : Int) := by rw [Int.tmod_eq_emod_of_nonneg (by omega)]; rfl
  refine VRes.to (congrArg (Value.int .i64) q) ?_
  (conv => whnf)
  refine VReq.mk (by omega) ?_
  refine VRes.shrN (k := .u16) (N := m.toNat) (s := 8) rfl rfl (by decide) ?_
  (conv => whnf)
  refine VRes.byte (N := m.toNat / 2 ^ 8) rfl ?_
  (conv => whnf)
  refine (partsWell_ok w3 (hw.keepNo kp) x h hx hh (m.toNat % 16) (by omega) (UInt8.ofNat (m.toNat / 2 ^ 8))).mono ?_
  rintro v w4 ⟨rfl, k4⟩
  (conv => whnf)
  exact ⟨rfl, kp.trans k4⟩

/-! ### The statement -/
theorem chapParts_own : ownKnob Tryd.prog.godebug = none := by kernel_rfl
theorem chapParts_laid : laidOutB Tryd.prog = true := by kernel_rfl
set_option maxRecDepth 100000 in
theorem chapParts_lifted (os : Os) (started : os.Started) (H : Type) (enc : TypeId × Value → H) :
    ReturnsInHanded {} Tryd.checked os 5 .any (fun w args => (Rows.chapPartsSpec.pre enc Tryd.prog Tryd.f5 Rows.chapPartsRow.domain false w args ∧ laidMetH Tryd.prog laidL w) ∧ sizedMet enc Tryd.prog Tryd.f5 (OpenSpec.ofChange Rows.chapPartsSpec) false w args) (Rows.chapPartsSpec.post enc Tryd.prog Tryd.f5 false true false false) := by
  refine returnsInHanded_of_change_and (C := Tryd.checked) (X := fun w _ => laidMetH Tryd.prog laidL w) (fun _ _ _ hh h => h.of_heap hh) chapParts_own started (by kernel_rfl) Tryd.func5
    (ChangeSpec.witness_at (enc := enc) (C := Tryd.checked) (os := os) (X := fun w _ => laidMetH Tryd.prog laidL w) false (laidWorld os) #[.agg #[.int .u8 0, .int .u8 0, .int .u8 0, .int .u8 0, .int .u8 0, .int .u8 0, .int .u8 0, .int .u8 0], .agg #[.int .u8 0, .int .u8 0, .int .u8 0, .int .u8 0, .int .u8 0, .int .u8 0, .int .u8 0, .int .u8 0, .int .u8 0, .int .u8 0, .int .u8 0, .int .u8 0, .int .u8 0, .int .u8 0, .int .u8 0, .int .u8 0], .int .u16 0] 8 (by first | rfl | exact laidWorld_os os) (by kernel_rfl) (by kernel_rfl) (by kernel_rfl) (by kernel_rfl) (by kernel_rfl) (laidWorld_met os _)) ?_
  intro W base args ds gs before hval0 hW hcnd _ hL _
  have hg := handle_of_laid hL
  have hval : ∀ (j : Nat) t v, Tryd.f5.params[j]? = some t → args[j]? = some v → Value.okWide Tryd.prog W .any base t v := hval0
  have hW' := hW
  obtain ⟨p, q, hA0, hV, rfl, hfz, hnd⟩ := hW
  have hA : DataW.TrodAll enc Tryd.prog W 0 (fun _ => true) true Tryd.f5.params.toList args.toList ds p := hA0
  rw [Tryd.params5] at hA hval
  obtain ⟨v0, vs0, d0, ds0, p0, q0, hargs, rfl, rfl, h0, r0⟩ := trodAll_cons hA
  obtain ⟨v1, vs1, d1, ds1, p1, q1, rfl, rfl, rfl, h1, r1⟩ := trodAll_cons r0
  obtain ⟨v2, vs2, d2, ds2, p2, q2, rfl, rfl, rfl, h2, r2⟩ := trodAll_cons r1
  obtain ⟨rfl, rfl, rfl⟩ := trodAll_nil r2
  obtain rfl : args = #[v0, v1, v2] := by cases args; simp_all
  obtain ⟨rfl, rfl⟩ := trodVars_none hV
  have k0 := h0
  have lt0 : ∀ x ∈ p0, x.block < W.heap.size := by obtain ⟨m, hm⟩ := k0; exact DataW.trod_lt m _ _ _ hm
  obtain ⟨cs0, rfl⟩ := okWide_arr8 Tryd.underlying33 (hval 0 33 v0 rfl rfl)
  obtain ⟨fuel0, hf0⟩ := h0
  obtain ⟨l0, e0, n0⟩ := open_arr8 Tryd.underlying33 Tryd.underlying5 (by kernel_rfl) (by kernel_rfl) hf0
  subst e0
  have k1 := h1
  have lt1 : ∀ x ∈ p1, x.block < W.heap.size := by obtain ⟨m, hm⟩ := k1; exact DataW.trod_lt m _ _ _ hm
  obtain ⟨cs1, rfl⟩ := okWide_arr8 Tryd.underlying34 (hval 1 34 v1 rfl rfl)
  obtain ⟨fuel1, hf1⟩ := h1
  obtain ⟨l1, e1, n1⟩ := open_arr8 Tryd.underlying34 Tryd.underlying5 (by kernel_rfl) (by kernel_rfl) hf1
  subst e1
  have k2 := h2
  have lt2 : ∀ x ∈ p2, x.block < W.heap.size := by obtain ⟨m, hm⟩ := k2; exact DataW.trod_lt m _ _ _ hm
  obtain ⟨a2, rfl, rfl, rfl, w2⟩ := open_int Tryd.underlying35 (hval 2 35 v2 rfl rfl) h2
  obtain ⟨m2, rfl⟩ := half_of w2
  clear hA0 hval0
  refine (VC.law (chapParts_ok W hg l0 n0 l1 n1 m2)).mono fun e W' ⟨he, bel⟩ => ?_
  subst he
  exact ⟨_, rfl, _, _, _, [], _, [], hW', trodAll_mk1 (shut_bool Tryd.underlying4 _), (trodAll_cons_mk (Below.trod chapParts_laid (by kernel_rfl) (of_decide_eq_true (by kernel_rfl)) k0 bel lt0) (trodAll_cons_mk (Below.trod chapParts_laid (by kernel_rfl) (of_decide_eq_true (by kernel_rfl)) k1 bel lt1) (trodAll_cons_mk (Below.trod chapParts_laid (by kernel_rfl) (of_decide_eq_true (by kernel_rfl)) k2 bel lt2) trodAll_mk0))), rfl, bel.frame _, fun h => by cases h⟩

theorem chapParts_over : Rows.chapPartsRow.holds Tryd.pinned (OpenSpec.ofChange Rows.chapPartsSpec) :=
  OpenClaim.holds_of_wide 5 Tryd.f5 rfl rfl rfl rfl rfl rfl rfl ⟨rfl, rfl, rfl, rfl, rfl⟩ rfl rfl rfl rfl rfl (by kernel_rfl) Tryd.func5 (by kernel_rfl)
    (of_decide_eq_true (by kernel_rfl)) (by unfold Func.isWrapper; first | (rw [if_pos (by decide +kernel)]; kernel_rfl) | (rw [if_neg (by decide +kernel)]; exact ⟨rfl, rfl⟩))
    (fun os started H enc _ => chapParts_lifted os started H enc)


theorem chapParts_proved : Rows.ChapPartsCardSaid :=
  Claim7.holds_tied_plain_at .later [] [.data, .handle, .pinned] true (true, "d848b456771465d59b552508a8352eea4c3a926b5b77aaadab633f6ba219e0b5") true
    chapParts_over (fun _ h => by cases h) (by kernel_rfl) (fun _ h => by cases h) chapParts_row_tie rfl ⟨rfl, rfl⟩ (by kernel_rfl) rfl
    (fun f fn hf hfn => by
      obtain rfl : f = 5 := Option.some.inj ((show Tryd.prog.funcNamed "fairlead/fairleadlaw9.ChapParts" = some 5 by kernel_rfl).symm.trans hf) |>.symm
      obtain rfl : fn = Tryd.f5 := (Option.some.inj (Tryd.func5.symm.trans hfn)).symm
      exact ⟨by kernel_rfl, fun j t ht => by
        rw [Tryd.params5] at ht
        exact (match j, ht with
      | 0, ht => by obtain rfl : 33 = t := (by simpa using ht); kernel_rfl
      | 1, ht => by obtain rfl : 34 = t := (by simpa using ht); kernel_rfl
      | 2, ht => by obtain rfl : 35 = t := (by simpa using ht); kernel_rfl
      | j + 3, ht => by simp at ht)⟩)
    (by kernel_rfl)
#print axioms chapParts_proved
end Go.Proofs.YtoeijgbjgbgelaaDoor
