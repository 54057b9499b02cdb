/-
  Packet: Same, the reference's; Small.
-/
import Derived.Test.YtififgodhnelgaaP5
namespace Go.Proofs.Ytififgodhnelgaa
open Go V

theorem bytesEqual_ok (w : World) {A : Option Addr} {n c : Nat} {l : List UInt8} {B : Option Addr} {m d : Nat} {r : List UInt8} (ha : Sl w 1 A n (l.map vb)) (hb : Sl w 1 B m (r.map vb)) :
    VC Try.prog 34 [.slice A n c, .slice B m d] w (fun v w' => v = .bool (decide (l = r)) ∧ w = w') := by
  refine VC.of tt_ok Try.func34 rfl (by decide +kernel) (Nat.le_of_ble_eq_true rfl) ?_; (conv => whnf)
  refine VConv.toStr ha ?_
  (conv => whnf)
  refine VConv.toStr hb ?_
  (conv => whnf)
  refine VCmp.mk (fun h => ?_) (fun h => ?_) <;> (conv => whnf)
  · exact ⟨congrArg Value.bool (decide_eq_true (sb_inj h)).symm, rfl⟩
  · exact ⟨congrArg Value.bool (decide_eq_false (fun e => h (by rw [e]))).symm, rfl⟩

theorem list_ne_of_at {α : Type} {a b : List α} {k : Nat} {x y : α} (hx : a[k]? = some x) (hy : b[k]? = some y) (h : x ≠ y) : a ≠ b := by
  rintro rfl
  rw [hx] at hy
  exact h (by injection hy)
theorem list_eq_of_take {α : Type} {a b : List α} {k : Nat} (h : a.take k = b.take k) (ha : a.length ≤ k) (hb : b.length ≤ k) : a = b := by
  rwa [List.take_of_length_le ha, List.take_of_length_le hb] at h

theorem pSame_ok (w : World) {X Y : Nat → Prop} {A B : Option Addr} {n c m d : Nat} {ca cb : List Value} {oa ob : List Opt} (ha : Sl w 2 A n ca) (hoa : Ops w X ca oa) (hb : Sl w 2 B m cb) (hob : Ops w Y cb ob) (hn : n ≤ 1000000) :
    VC Try.prog 26 [.slice A n c, .slice B m d] w (fun v w' => v = .bool (decide (oa = ob)) ∧ Keep No w w') := by
  have hla := hoa.len ha
  have hlb := hob.len hb
  refine VC.of tt_ok Try.func26 rfl (by decide +kernel) (Nat.le_of_ble_eq_true rfl) ?_; (conv => whnf)
  refine VCmp.mk (fun h => ?_) (fun h => ?_) <;> (conv => whnf)
  · exact ⟨congrArg Value.bool (decide_eq_false (fun e => by subst e; omega)).symm, Keep.refl _ _⟩
  have hnm : n = m := by omega
  subst hnm
  refine VLoop.by_ tt_ok (S := Nat) (fun k => [(1, .slice B n d), (12, .slice A n c), (13, .int .i64 n), (14, .int .i64 k)]) (fun k w' => k ≤ n ∧ oa.take k = ob.take k ∧ Keep No w w') (fun k => n - k) 0
    ⟨rfl, rfl, rfl, rfl, trivial⟩ ⟨by omega, by simp, Keep.refl _ _⟩ ?_
  rintro k w' ⟨hk, ht, kp⟩
  (conv => whnf)
  refine VCmp.mk (fun h => ?_) (fun h => ?_) <;> (conv => whnf)
  · obtain ⟨x, hx⟩ : ∃ x, oa[k]? = some x := ⟨_, List.getElem?_eq_getElem (by omega)⟩
    obtain ⟨y, hy⟩ : ∃ y, ob[k]? = some y := ⟨_, List.getElem?_eq_getElem (by omega)⟩
    obtain ⟨b1, o1, A1, c1, hA, hkn, e0, e1, _, hs1⟩ := hoa.at_ ha hx
    obtain ⟨b2, o2, A2, c2, hB, _, g0, g1, _, hs2⟩ := hob.at_ hb hy
    refine VIdx.mul k rfl (by omega) hA ?_
    (conv => whnf)
    refine VLoads.two (kp.cell e0 id) (kp.cell e1 id) ?_
    (conv => whnf)
    refine ⟨fun w1 hb1 hk1 => ?_⟩; have hb1_lt := Blk.lt hb1; have hk1_sz := hk1.size; (conv => whnf); (refine VReq.mk ⟨rfl, (fun u hu => List.all_eq_true.mp (show List.all _ (fun u => u.oneCell') = true by rfl) u hu)⟩ ?_; (conv => whnf)); refine VStore.all hb1 rfl ?_; intro w2 hb2 hk2 hk2_sz; have hk2 := Keep.fresh_ hk1 hk2 (Nat.le_refl _); (conv => whnf)
    have kp := kp.keepNo hk2
    have g0 := kp.cell g0 id
    have g1 := kp.cell g1 id
    have hb2' := hb2
    refine VDraw.by_ tt_ok rfl (.take 0 (.take 1 (.take 2 (.take 3 (.take 4 (.take 5 (.take 6 (.take 7 (.take 8 (.take 9 (.take 10 (.take 11 (.take 12 (.take 13 (.take 14 (.take 15 (.one 16 (.take 17 (.take 18 .done))))))))))))))))))) (by decide +kernel) _ (fun x h1 h2 h3 h4 => Keep.ofHeap h1 h2 h3 h4) (fun wd hd kd => ?_)
    have kp := kp.keepNo kd; have hb2 := hb2.keepNo kd
    (conv => whnf)
    have hne : x ≠ y → false = decide (oa = ob) := fun h => (decide_eq_false (list_ne_of_at hx hy h)).symm
    refine VLoad.keep (hb2'.cell 0) ?_
    (conv => whnf)
    refine VIdx.mul k rfl (by omega) hB ?_
    (conv => whnf)
    refine VLoad.keep g0 ?_
    (conv => whnf)
    refine VCmp.mk (fun h1 => ?_) (fun h1 => ?_) <;> (conv => whnf)
    · exact ⟨congrArg Value.bool (hne (fun e => h1 (by rw [e]))), kp⟩
    refine VLoad.keep (hb2'.cell 1) ?_
    (conv => whnf)
    refine VIdx.mul k rfl (by omega) hB ?_
    (conv => whnf)
    refine VLoad.keep g1 ?_
    (conv => whnf)
    refine (bytesEqual_ok wd (hs1.keepNo kp) (hs2.keepNo kp)).mono ?_
    rintro v w3 ⟨rfl, rfl⟩
    (conv => whnf)
    refine VOwe.same kd ?_
    by_cases hd : x.data = y.data
    · rw [decide_eq_true hd]
      (conv => whnf)
      refine VRes.i64 (by omega) ?_; (conv => whnf)
      have hxy : x = y := Opt.ext_ (by omega) hd
      exact ⟨k + 1, ⟨rfl, rfl, rfl, rfl, trivial⟩, ⟨by omega, by rw [List.take_add_one, List.take_add_one, ht, hx, hy, hxy], kp⟩, by omega⟩
    · rw [decide_eq_false hd]
      (conv => whnf)
      exact ⟨congrArg Value.bool (hne (fun e => hd (by rw [e]))), kp⟩
  · exact ⟨congrArg Value.bool (decide_eq_true (list_eq_of_take ht (by omega) (by omega))).symm, kp⟩

theorem one_ok (w : World) {A B : Option Addr} {c d : Nat} {x y : Opt} (ha : Sl w 1 A x.data.length (x.data.map vb)) (hb : Sl w 1 B y.data.length (y.data.map vb)) (hn : x.data.length ≤ 140737488355328) :
    VC Try.prog 33 [.agg #[.int .i64 x.t, .slice A x.data.length c], .agg #[.int .i64 y.t, .slice B y.data.length d]] w (fun v w' => v = .bool (decide (x = y)) ∧ Keep No w w') := by
  refine VC.of tt_ok Try.func33 rfl (by decide +kernel) (Nat.le_of_ble_eq_true rfl) ?_; (conv => whnf)
  refine ⟨fun w1 hb1 hk1 => ?_⟩; have hb1_lt := Blk.lt hb1; have hk1_sz := hk1.size; (conv => whnf)
  refine ⟨fun w2 hb2 hk2 => ?_⟩; have hb2_lt := Blk.lt hb2; have hk2_sz := hk2.size; (conv => whnf)
  have kp := hk1.trans hk2
  have hb1 := hb1.keepNo hk2
  refine VLoad.by_ ((hb1).cell 0) ?_; (conv => whnf)
  refine VLoad.by_ ((hb2).cell 0) ?_; (conv => whnf)
  refine VCmp.mk (fun h1 => ?_) (fun h1 => ?_) <;> (conv => whnf)
  · refine VLoad.by_ ((hb1).cell 1) ?_; (conv => whnf)
    refine VLoad.by_ ((hb2).cell 1) ?_; (conv => whnf)
    refine (same_ok w2 (ha.keepNo kp) (hb.keepNo kp) hn).mono ?_
    rintro v w3 ⟨rfl, hk3⟩
    (conv => whnf)
    exact ⟨congrArg Value.bool (decide_eq_decide.2 ⟨fun e => Opt.ext_ h1 e, fun e => by rw [e]⟩), kp.trans hk3⟩
  · exact ⟨congrArg Value.bool (decide_eq_false (fun e => h1 (by rw [e]))).symm, kp⟩

theorem rSame_ok (w : World) {X Y : Nat → Prop} {A B : Option Addr} {n c m d : Nat} {ca cb : List Value} {oa ob : List Opt} (ha : Sl w 2 A n ca) (hoa : Ops w X ca oa) (hb : Sl w 2 B m cb) (hob : Ops w Y cb ob) (hn : n ≤ 1000000) (hdl : ∀ o ∈ oa, o.data.length ≤ 140737488355328) :
    VC Try.prog 23 [.slice A n c, .slice B m d] w (fun v w' => v = .bool (decide (oa = ob)) ∧ Keep No w w') := by
  have hla := hoa.len ha
  have hlb := hob.len hb
  refine VC.of tt_ok Try.func23 rfl (by decide +kernel) (Nat.le_of_ble_eq_true rfl) ?_; (conv => whnf)
  refine VCmp.mk (fun h => ?_) (fun h => ?_) <;> (conv => whnf)
  · exact ⟨congrArg Value.bool (decide_eq_false (fun e => by subst e; omega)).symm, Keep.refl _ _⟩
  have hnm : n = m := by omega
  subst hnm
  refine VLoop.by_ tt_ok (S := Nat) (fun k => [(1, .slice B n d), (0, .slice A n c), (5, .int .i64 k)]) (fun k w' => k ≤ n ∧ oa.take k = ob.take k ∧ Keep No w w') (fun k => n - k) 0
    ⟨rfl, rfl, rfl, trivial⟩ ⟨by omega, by simp, Keep.refl _ _⟩ ?_
  rintro k w' ⟨hk, ht, kp⟩
  (conv => whnf)
  refine VCmp.mk (fun h => ?_) (fun h => ?_) <;> (conv => whnf)
  · obtain ⟨x, hx⟩ : ∃ x, oa[k]? = some x := ⟨_, List.getElem?_eq_getElem (by omega)⟩
    obtain ⟨y, hy⟩ : ∃ y, ob[k]? = some y := ⟨_, List.getElem?_eq_getElem (by omega)⟩
    obtain ⟨b1, o1, A1, c1, hA, hkn, e0, e1, _, hs1⟩ := hoa.at_ ha hx
    obtain ⟨b2, o2, A2, c2, hB, _, g0, g1, _, hs2⟩ := hob.at_ hb hy
    refine VDraw.by_ tt_ok rfl (.take 0 (.take 1 (.take 2 (.take 3 (.take 4 (.take 5 (.take 6 (.take 7 (.one 8 (.take 9 .done)))))))))) (by decide +kernel) (fun x => Keep No w x) (fun x h1 h2 h3 h4 => kp.trans (Keep.ofHeap h1 h2 h3 h4)) (fun wd hd kd => ?_)
    have kp := kp.keepNo kd
    (conv => whnf)
    refine VIdx.mul k rfl (by omega) hA ?_
    (conv => whnf)
    refine VLoads.two (fun x hx => hx.cell e0 id) (fun x hx => hx.cell e1 id) ?_
    (conv => whnf)
    refine VIdx.mul k rfl (by omega) hB ?_
    (conv => whnf)
    refine VLoads.two (fun x hx => hx.cell g0 id) (fun x hx => hx.cell g1 id) ?_
    (conv => whnf)
    refine (one_ok wd (hs1.keepNo kp) (hs2.keepNo kp) (hdl x (List.mem_of_getElem? hx))).mono ?_
    rintro v w3 ⟨rfl, hk3⟩
    have kp := kp.keepNo hk3
    (conv => whnf)
    refine VOwe.same kp ?_
    by_cases hxy : x = y
    · rw [decide_eq_true hxy]
      (conv => whnf)
      refine VRes.i64 (by omega) ?_; (conv => whnf)
      exact ⟨k + 1, ⟨rfl, rfl, rfl, trivial⟩, ⟨by omega, by rw [List.take_add_one, List.take_add_one, ht, hx, hy, hxy], kp⟩, by omega⟩
    · rw [decide_eq_false hxy]
      (conv => whnf)
      exact ⟨congrArg Value.bool (decide_eq_false (list_ne_of_at hx hy hxy)).symm, kp⟩
  · exact ⟨congrArg Value.bool (decide_eq_true (list_eq_of_take ht (by omega) (by omega))).symm, kp⟩

def smallO (os : List Opt) : Prop := os.length ≤ 60 ∧ ∀ o ∈ os, o.data.length ≤ 300
instance (os : List Opt) : Decidable (smallO os) := inferInstanceAs (Decidable (_ ∧ _))
theorem small_ok (w : World) {X : Nat → Prop} {A : Option Addr} {n c : Nat} {ca : List Value} {oa : List Opt} (ha : Sl w 2 A n ca) (hoa : Ops w X ca oa) :
    VC Try.prog 20 [.slice A n c] w (fun v w' => v = .bool (decide (smallO oa)) ∧ w = w') := by
  have hla := hoa.len ha
  refine VC.of tt_ok Try.func20 rfl (by decide +kernel) (Nat.le_of_ble_eq_true rfl) ?_; (conv => whnf)
  refine VCmp.mk (fun h => ?_) (fun h => ?_) <;> (conv => whnf)
  · exact ⟨congrArg Value.bool (decide_eq_false (fun e => by have := e.1; omega)).symm, rfl⟩
  refine VLoop.by_ tt_ok (S := Nat) (fun k => [(0, .slice A n c), (3, .int .i64 k)]) (fun k w' => k ≤ n ∧ (∀ o ∈ oa.take k, o.data.length ≤ 300) ∧ w = w') (fun k => n - k) 0
    ⟨rfl, rfl, trivial⟩ ⟨by omega, by simp, rfl⟩ ?_
  rintro k w' ⟨hk, ht, rfl⟩
  (conv => whnf)
  refine VCmp.mk (fun h => ?_) (fun h => ?_) <;> (conv => whnf)
  · obtain ⟨x, hx⟩ : ∃ x, oa[k]? = some x := ⟨_, List.getElem?_eq_getElem (by omega)⟩
    obtain ⟨b1, o1, A1, c1, hA, hkn, e0, e1, _, hs1⟩ := hoa.at_ ha hx
    refine VIdx.mul k rfl (by omega) hA ?_
    (conv => whnf)
    refine VLoad.by_ e1 ?_
    (conv => whnf)
    refine VCmp.mk (fun h => ?_) (fun h => ?_) <;> (conv => whnf)
    · exact ⟨congrArg Value.bool (decide_eq_false (fun e => by have := e.2 x (List.mem_of_getElem? hx); omega)).symm, rfl⟩
    · refine VRes.i64 (by omega) ?_; (conv => whnf)
      refine ⟨k + 1, ⟨rfl, rfl, trivial⟩, ⟨by omega, ?_, rfl⟩, by omega⟩
      intro y hy
      rw [List.take_add_one, hx] at hy
      rcases List.mem_append.1 hy with h1 | h1
      · exact ht y h1
      · obtain rfl : y = x := by simpa using h1
        omega
  · rw [List.take_of_length_le (by omega)] at ht
    exact ⟨congrArg Value.bool (decide_eq_true ⟨by omega, ht⟩).symm, rfl⟩
end Go.Proofs.Ytififgodhnelgaa
