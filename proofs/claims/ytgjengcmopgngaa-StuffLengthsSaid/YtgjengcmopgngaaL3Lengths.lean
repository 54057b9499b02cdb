/-
  StuffLengths: what is stuffed is as long as it was, two flags, and one more for each byte that is escaped. For every input.
-/
import Derived.Test.YtgjengcmopgngaaSt5
import Derived.Test.YtgjengcmopgngaaRows
import Derived.Test.YtgjengcmopgngaaVl
namespace Go.Proofs.Ytgjengcmopgngaa
open Go V Go.ChangeShapes Go.WideShapes Go.ChangeAt Go.RowKit
open Go.ChangeMaps (open_string shut_string)

def cnt (m : BitVec 32) (l : List UInt8) : Nat := (l.filter (esc m)).length
theorem cnt_snoc (m : BitVec 32) (l : List UInt8) (k : Nat) (x : UInt8) (h : l[k]? = some x) : cnt m (l.take (k + 1)) = cnt m (l.take k) + if esc m x then 1 else 0 := by
  rw [List.take_add_one, h]
  unfold cnt
  rw [List.filter_append, List.length_append]
  cases hx : esc m x <;> simp [hx]
theorem cnt_le (m : BitVec 32) (l : List UInt8) : cnt m l ≤ l.length := List.length_filter_le _ _
theorem stuffL_length (m : BitVec 32) (l : List UInt8) : (stuffL m l).length = l.length + cnt m l := by
  induction l with
  | nil => rfl
  | cons x l ih =>
    have h1 : stuffL m (x :: l) = (if esc m x then [0x7d, x ^^^ 0x20] else [x]) ++ stuffL m l := by simp [stuffL]
    have h2 : cnt m (x :: l) = (if esc m x then 1 else 0) + cnt m l := by
      unfold cnt
      cases hx : esc m x <;> simp [hx]; omega
    rw [h1, h2, List.length_append, ih, List.length_cons]
    cases hx : esc m x <;> simp <;> omega

theorem stuffLengths_ok (W : World) (A : Option Addr) (n c : Nat) (l : List UInt8) (hs : Sl W 1 A n (l.map vb)) (_ : n ≤ c) (hc : c ≤ 9223372036854775807) (hb : ∀ a, A = some a → 0 < n → a.block < W.heap.size) (m : BitVec 32) :
    VC Try.prog 3 [.slice A n c, vw m] W (fun v w' => v = .bool true ∧ Keep No W w') := by
  have hl : l.length = n := by simpa using hs.len
  refine VC.of tt_ok Try.func3 rfl (by decide +kernel) (Nat.le_of_ble_eq_true rfl) ?_; (conv => whnf)
  refine (awake_ok W).mono ?_
  rintro v w1 ⟨rfl, hk1⟩
  (conv => whnf)
  refine VCmp.mk (fun h => ?_) (fun h => ?_) <;> (conv => whnf)
  · exact ⟨rfl, hk1⟩
  refine VRes.i64 (by omega) ?_
  (conv => whnf)
  refine VLoop.by_ tt_ok (S := Nat) (fun k => [(0, .slice A n c), (1, vw m), (5, .int .i64 ((n + 2 + cnt m (l.take k) : Nat) : Int)), (6, .int .i64 k)]) (fun k w' => k ≤ n ∧ w' = w1) (fun k => n - k) 0
      ⟨rfl, rfl, by simp [cnt]; rfl, rfl, trivial⟩ ⟨by omega, rfl⟩ ?_
  rintro k w' ⟨hk, rfl⟩
  have hcl := cnt_le m (l.take k)
  have htl : (l.take k).length = k := by rw [List.length_take]; omega
  (conv => whnf)
  refine VCmp.mk (fun h => ?_) (fun h => ?_) <;> (conv => whnf)
  · obtain ⟨x, hx⟩ : ∃ x, l[k]? = some x := ⟨_, List.getElem?_eq_getElem (by omega)⟩
    have hsn := cnt_snoc m l k x hx
    obtain ⟨b, o, hA, hcell⟩ := (hs.keepNo hk1).at_ (by omega)
    have hcx := hcell k (vb x) (by simp [hx])
    have fin : ∀ (q : Nat) (e : Bool), esc m x = e → q = (n + 2 + cnt m (l.take k)) + (if e then 1 else 0) → q = n + 2 + cnt m (l.take (k + 1)) := by
      intro q e he hq
      rw [hsn, he, hq]; omega
    have hmap : mapB x m = (decide (x.toNat < 32) && ((m >>> x.toNat) &&& 1#32 == 1#32)) := rfl
    refine VIdx.one k rfl (by omega) hA ?_
    (conv => whnf)
    refine VLoad.by_ hcx ?_
    (conv => whnf)
    refine VCmp.mk (fun h2 => ?_) (fun h2 => ?_) <;> (conv => whnf)
    · have hx2 : x = 0x7d := UInt8.toNat_inj.1 (by have : (0x7d : UInt8).toNat = 125 := rfl; omega)
      have he : esc m x = true := by rw [hx2]; rfl
      refine VRes.i64 (by omega) ?_
      (conv => whnf)
      refine VRes.i64 (by omega) ?_
      (conv => whnf)
      exact ⟨k + 1, ⟨rfl, rfl, congrArg (fun z : Nat => some (Value.int .i64 (z : Int))) (fin (n + 2 + cnt m (l.take k) + 1) true he rfl), rfl, trivial⟩, ⟨by omega, rfl⟩, by omega⟩
    refine VIdx.one k rfl (by omega) hA ?_
    (conv => whnf)
    refine VLoad.by_ hcx ?_
    (conv => whnf)
    refine VCmp.mk (fun h3 => ?_) (fun h3 => ?_) <;> (conv => whnf)
    · have hx2 : x = 0x7e := UInt8.toNat_inj.1 (by have : (0x7e : UInt8).toNat = 126 := rfl; omega)
      have he : esc m x = true := by rw [hx2]; rfl
      refine VRes.i64 (by omega) ?_
      (conv => whnf)
      refine VRes.i64 (by omega) ?_
      (conv => whnf)
      exact ⟨k + 1, ⟨rfl, rfl, congrArg (fun z : Nat => some (Value.int .i64 (z : Int))) (fin (n + 2 + cnt m (l.take k) + 1) true he rfl), rfl, trivial⟩, ⟨by omega, rfl⟩, by omega⟩
    have hn1 : (x == 0x7d) = false := beq_eq_false_iff_ne.2 (fun e => h2 (by rw [e]; rfl))
    have hn2 : (x == 0x7e) = false := beq_eq_false_iff_ne.2 (fun e => h3 (by rw [e]; rfl))
    have hem : esc m x = mapB x m := by simp [esc, hn1, hn2]
    refine VIdx.one k rfl (by omega) hA ?_
    (conv => whnf)
    refine VLoad.by_ hcx ?_
    (conv => whnf)
    refine VCmp.mk (fun h4 => ?_) (fun h4 => ?_) <;> (conv => whnf)
    rotate_left
    · have he : esc m x = false := by rw [hem, hmap, decide_eq_false (by omega)]; rfl
      refine VRes.i64 (by omega) ?_
      (conv => whnf)
      exact ⟨k + 1, ⟨rfl, rfl, congrArg (fun z : Nat => some (Value.int .i64 (z : Int))) (fin (n + 2 + cnt m (l.take k)) false he rfl), rfl, trivial⟩, ⟨by omega, rfl⟩, by omega⟩
    refine VIdx.one k rfl (by omega) hA ?_
    (conv => whnf)
    refine VLoad.by_ hcx ?_
    (conv => whnf)
    refine VRes.u64 (by omega) ?_
    (conv => whnf)
    refine VReq.mk (by omega) ?_
    (conv => whnf)
    refine VRes.shr32 rfl ?_
    (conv => whnf)
    refine VRes.and32 (y := 1#32) rfl ?_
    (conv => whnf)
    refine VCmp.mk (fun h5 => ?_) (fun h5 => ?_) <;> (conv => whnf)
    · have e : (m >>> x.toNat) &&& 1#32 = 1#32 := BitVec.eq_of_toNat_eq (by have : (1#32).toNat = 1 := rfl; omega)
      have he : esc m x = true := by rw [hem, hmap, decide_eq_true (by omega), e]; rfl
      refine VRes.i64 (by omega) ?_
      (conv => whnf)
      refine VRes.i64 (by omega) ?_
      (conv => whnf)
      exact ⟨k + 1, ⟨rfl, rfl, congrArg (fun z : Nat => some (Value.int .i64 (z : Int))) (fin (n + 2 + cnt m (l.take k) + 1) true he rfl), rfl, trivial⟩, ⟨by omega, rfl⟩, by omega⟩
    · have e : ¬ ((m >>> x.toNat) &&& 1#32 = 1#32) := fun e => by rw [e] at h5; exact h5 rfl
      have he : esc m x = false := by rw [hem, hmap, beq_eq_false_iff_ne.2 e, Bool.and_false]
      refine VRes.i64 (by omega) ?_
      (conv => whnf)
      exact ⟨k + 1, ⟨rfl, rfl, congrArg (fun z : Nat => some (Value.int .i64 (z : Int))) (fin (n + 2 + cnt m (l.take k)) false he rfl), rfl, trivial⟩, ⟨by omega, rfl⟩, by omega⟩
  · have hkn : k = n := by omega
    subst hkn
    rw [List.take_of_length_le (by omega)] at hcl ⊢
    refine (stuff_ok _ A k c l m (hs.keepNo hk1) (by omega)).mono ?_
    rintro v w2 ⟨A2, n2, c2, rfl, ho2, hk2⟩
    have hn2 : n2 = k + 2 + cnt m l := by
      have := (Sl.ofOwn ho2).len
      rw [List.length_map] at this
      rw [← this]
      simp only [stuffed, List.cons_append, List.length_cons, List.length_append, stuffL_length, List.length_nil]
      omega
    subst hn2
    obtain ⟨b, o, hA2, hc2⟩ := (Sl.ofOwn ho2).at_ (by omega)
    (conv => whnf)
    refine VCmp.mk (fun h2 => ?_) (fun h2 => ?_) <;> first | (exfalso; exact h2 rfl) | (conv => whnf)
    refine VIdx.one 0 rfl (by omega) hA2 ?_
    (conv => whnf)
    refine VLoad.by_ (hc2 0 (vb 0x7e) (by simp [stuffed])) ?_
    (conv => whnf)
    refine VCmp.mk (fun h3 => ?_) (fun h3 => ?_) <;> first | (exfalso; exact h3 rfl) | (conv => whnf)
    refine VRes.i64 (by omega) ?_
    (conv => whnf)
    refine VIdx.one (k + 1 + cnt m l) (by omega) (by omega) hA2 ?_
    (conv => whnf)
    refine VLoad.by_ (hc2 (k + 1 + cnt m l) (vb 0x7e) ?_) ?_
    · have : (stuffed m l)[k + 1 + cnt m l]? = some 0x7e := by
        unfold stuffed
        rw [List.getElem?_append_right (by simp [stuffL_length]; omega)]
        simp only [List.length_cons, stuffL_length]
        rw [show k + 1 + cnt m l - (l.length + cnt m l + 1) = 0 from by omega]
        rfl
      rw [List.getElem?_map, this]; rfl
    (conv => whnf)
    refine VCmp.mk (fun h4 => ?_) (fun h4 => ?_) <;> first | (exfalso; exact h4 rfl) | (conv => whnf)
    exact ⟨rfl, hk1.trans hk2⟩

/-! ### The statement -/
theorem stuffLengths_own : ownKnob Try.prog.godebug = none := by kernel_rfl
theorem stuffLengths_laid : laidOutB Try.prog = true := by kernel_rfl
set_option maxRecDepth 100000 in
theorem stuffLengths_lifted (os : Os) (started : os.Started) (H : Type) (enc : TypeId × Value → H) :
    ReturnsInHanded {} Try.checked os 3 .any (Rows.stuffLengthsSpec.pre6 enc Try.prog Try.f3 Rows.stuffLengthsRow.domain false) (Rows.stuffLengthsSpec.post enc Try.prog Try.f3 false true false false) := by
  refine returnsInHanded_of_change (C := Try.checked) stuffLengths_own started (by kernel_rfl) Try.func3
    (ChangeSpec.witness6 (enc := enc) (C := Try.checked) false ⟨#[], #[.slice none 0 0, .int .u32 0], []⟩ 8 (by kernel_rfl) (by kernel_rfl) (by kernel_rfl) (by kernel_rfl)) ?_
  intro W base args ds gs before hval0 hW hcnd _
  have hval : ∀ (j : Nat) t v, Try.f3.params[j]? = some t → args[j]? = some v → Value.okWide Try.prog W .any base t v := hval0
  have hW' := hW
  obtain ⟨p, q, hA0, hV, rfl, hfz, hnd⟩ := hW
  have hA : DataW.TrodAll enc Try.prog W 0 (fun _ => true) true Try.f3.params.toList args.toList ds p := hA0
  rw [Try.params3] at hA hval
  obtain ⟨v0, vs0, d0, ds0, p0, q0, hargs, rfl, rfl, h0, r0⟩ := trodAll_cons hA
  obtain ⟨v1, vs1, d1, ds1, p1, q1, rfl, rfl, rfl, h1, r1⟩ := trodAll_cons r0
  obtain ⟨rfl, rfl, rfl⟩ := trodAll_nil r1
  obtain rfl : args = #[v0, v1] := by cases args; simp_all
  obtain ⟨rfl, rfl⟩ := trodVars_none hV
  have k0 := h0
  have lt0 : ∀ x ∈ p0, x.block < W.heap.size := by obtain ⟨m, hm⟩ := k0; exact DataW.trod_lt m _ _ _ hm
  obtain ⟨aa0, la0, ca0, rfl⟩ := okWide_slice Try.underlying22 (hval 0 22 v0 rfl rfl)
  obtain ⟨fuel0, hf0⟩ := h0
  obtain ⟨A0, n0, c0, l0, e0, s0, ln0, nc0, cc0, b0⟩ := open_bytes Try.underlying22 Try.underlying5 (by kernel_rfl) hf0
  cases e0
  have k1 := h1
  have lt1 : ∀ x ∈ p1, x.block < W.heap.size := by obtain ⟨m, hm⟩ := k1; exact DataW.trod_lt m _ _ _ hm
  obtain ⟨a1, rfl, rfl, rfl, w1⟩ := open_int Try.underlying23 (hval 1 23 v1 rfl rfl) h1
  obtain ⟨m1, rfl⟩ := word_of w1
  clear hA0 hval0
  refine (VC.law (stuffLengths_ok W aa0 la0 ca0 l0 s0 nc0 cc0 b0 m1)).mono fun e W' ⟨he, bel⟩ => ?_
  subst he
  exact ⟨_, rfl, _, _, _, [], _, [], hW', trodAll_mk1 (shut_bool Try.underlying4 _), (trodAll_cons_mk (Below.trod stuffLengths_laid (by kernel_rfl) (of_decide_eq_true (by kernel_rfl)) k0 bel lt0) (trodAll_cons_mk (Below.trod stuffLengths_laid (by kernel_rfl) (of_decide_eq_true (by kernel_rfl)) k1 bel lt1) trodAll_mk0)), rfl, bel.frame _, fun h => by cases h⟩

theorem stuffLengths_over : Rows.stuffLengthsRow.holds Try.pinned (OpenSpec.ofChange Rows.stuffLengthsSpec) :=
  OpenClaim.holds_of_wide 3 Try.f3 rfl rfl rfl rfl rfl rfl rfl ⟨rfl, rfl, rfl, rfl, rfl⟩ rfl rfl rfl rfl rfl (by kernel_rfl) Try.func3 (by kernel_rfl)
    (of_decide_eq_true (by kernel_rfl)) (by unfold Func.isWrapper; first | (rw [if_pos (by decide +kernel)]; kernel_rfl) | (rw [if_neg (by decide +kernel)]; exact ⟨rfl, rfl⟩))
    (fun os started H enc _ => stuffLengths_lifted os started H enc)

theorem stuffLengths_proved : Rows.StuffLengthsSaid := stuffLengths_over
#print axioms stuffLengths_proved
end Go.Proofs.Ytgjengcmopgngaa
