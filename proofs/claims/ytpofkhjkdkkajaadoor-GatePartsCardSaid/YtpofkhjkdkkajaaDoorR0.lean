/-
  The reference's Stuff.
-/
import Derived.Test.YtpofkhjkdkkajaaDoorSt1
namespace Go.Proofs.YtpofkhjkdkkajaaDoor
open Go V

theorem mapB_iff (c : UInt8) (m : BitVec 32) : mapB c m = true ↔ c.toNat < 32 ∧ ((m >>> c.toNat) &&& 1#32).toNat = 1 := by
  unfold mapB
  rw [Bool.and_eq_true, decide_eq_true_iff, beq_iff_eq]
  refine ⟨fun ⟨h1, h2⟩ => ⟨h1, by rw [h2]; rfl⟩, fun ⟨h1, h2⟩ => ⟨h1, BitVec.eq_of_toNat_eq (by rw [h2]; rfl)⟩⟩
theorem escB_iff (c : UInt8) (m : BitVec 32) : escB m c = true ↔ c.toNat = 126 ∨ c.toNat = 125 ∨ (c.toNat < 32 ∧ ((m >>> c.toNat) &&& 1#32).toNat = 1) := by
  unfold escB
  rw [Bool.or_eq_true, Bool.or_eq_true, mapB_iff, beq_iff_eq, beq_iff_eq]
  have e1 : c = 0x7e ↔ c.toNat = 126 := ⟨fun h => by rw [h]; rfl, fun h => UInt8.toNat_inj.1 h⟩
  have e2 : c = 0x7d ↔ c.toNat = 125 := ⟨fun h => by rw [h]; rfl, fun h => UInt8.toNat_inj.1 h⟩
  rw [e1, e2]

theorem refStuff_ok (w : World) (A : Option Addr) (n c : Nat) (l : List UInt8) (m : BitVec 32) (hs : Sl w 1 A n (l.map vb)) (hn : n ≤ 1000000) :
    VC Tryd.prog 17 [.slice A n c, vw m] w (fun v w' => ∃ A' n' c', v = .slice A' n' c' ∧ Own w' w.heap.size T8 1 A' n' c' ((stuffed m l).map vb) ∧ Keep No w w') := by
  have hl : l.length = n := by simpa using hs.len
  refine VC.of tt_ok Tryd.func17 rfl (by decide +kernel) (Nat.le_of_ble_eq_true rfl) ?_; (conv => whnf)
  refine VFill.by_ rfl ?_
  (conv => whnf)
  refine ⟨fun w1 hb1 hk1 => ?_⟩
  (conv => whnf)
  refine VLoop.by_ tt_ok (S := Nat × Option Addr × Nat × Nat) (fun | (k, A', n', c') => [(0, .slice A n c), (1, vw m), (5, .slice A' n' c'), (6, .int .i64 k)])
    (fun | (k, A', n', c') => fun w' => k ≤ n ∧ n' = (stuffL m (l.take k)).length + 1 ∧ Own w' w.heap.size T8 1 A' n' c' ((0x7e :: stuffL m (l.take k)).map vb) ∧ Keep No w w') (fun | (k, _, _, _) => n - k)
    (0, some ⟨w.heap.size, 0, none⟩, 1, 1) ⟨rfl, rfl, rfl, rfl, trivial⟩ ⟨by simp, by simp [stuffL], ?_, hk1⟩ ?_
  · exact Own.new (n := 1) hb1 (Nat.le_refl _) rfl (by unfold maxLen; omega)
  rintro ⟨k, A', n', c'⟩ w' ⟨hk, hn', hown, hkeep⟩
  (conv => whnf)
  refine VCmp.mk (fun h => ?_) (fun h => ?_) <;> (conv => whnf)
  · obtain ⟨x, hx⟩ : ∃ x, l[k]? = some x := ⟨_, List.getElem?_eq_getElem (by omega)⟩
    obtain ⟨b, o, hA, hc⟩ := (hs.keepNo hkeep).at_ (by omega)
    refine VIdx.one k rfl (by omega) hA ?_
    (conv => whnf)
    refine VLoad.by_ (hc k (vb x) (by simp [hx])) ?_
    (conv => whnf)
    have hsn := stuffL_snoc m l k x hx
    have hbd := stuffL_len m (l.take k)
    have hbt : (l.take k).length ≤ n := by rw [List.length_take]; omega
    have fin1 : ∀ (w2 : World) (A2 : Option Addr) (c2 : Nat) (ys : List UInt8) (nn : Nat), (ys = if escB m x then [0x7d, x ^^^ 0x20] else [x]) → nn = n' + ys.length → Own w2 w.heap.size T8 1 A2 nn c2 (((0x7e :: stuffL m (l.take k)) ++ ys).map vb) →
        k + 1 ≤ n ∧ nn = (stuffL m (l.take (k + 1))).length + 1 ∧ Own w2 w.heap.size T8 1 A2 nn c2 ((0x7e :: stuffL m (l.take (k + 1))).map vb) := by
      intro w2 A2 c2 ys nn hy hnn ho
      rw [hsn, ← hy]
      exact ⟨by omega, by rw [List.length_append]; omega, by simpa using ho⟩
    have hE := escB_iff x m
    have hx8 := x.toNat_lt
    clear hsn
    cases he : escB m x with
    | true =>
      rw [he] at hE fin1
      have hE' := hE.1 rfl
      (repeat' (first  | (refine VCmp.mk (fun h => ?_) (fun h => ?_) <;> first | (exfalso; omega) | (conv => whnf))  | (refine VRes.i64 (by omega) ?_; conv => whnf)  | (refine VReq.mk (by omega) ?_; conv => whnf)))
      all_goals (try (refine VRes.u64 (by omega) ?_; (conv => whnf); refine VReq.mk (by omega) ?_; (conv => whnf)))
      all_goals (try (refine VRes.shr32 rfl ?_; (conv => whnf); refine VRes.and32 (y := 1#32) rfl ?_; (conv => whnf); (repeat' (first  | (refine VCmp.mk (fun h => ?_) (fun h => ?_) <;> first | (exfalso; omega) | (conv => whnf))  | (refine VRes.i64 (by omega) ?_; conv => whnf)  | (refine VReq.mk (by omega) ?_; conv => whnf)))))
      all_goals (
        refine VRes.xor8 (y := 0x20) rfl ?_
        (conv => whnf)
        refine VFill.by_ rfl ?_
        (conv => whnf)
        refine ⟨fun w2 hb2 hk2 => ?_⟩
        (conv => whnf)
        refine app8 (ys := [0x7d, x ^^^ 0x20]) (hkeep.trans hk2) (hown.keepNo hk2) (Sl.ofBlk (n := 2) (size := 1) (xs := ([0x7d, x ^^^ 0x20] : List UInt8).map vb) hb2 rfl) (by omega) ?_
        intro A3 c3 w3 ho3 hk3 _ _
        (conv => whnf)
        refine VRes.i64 (by omega) ?_
        (conv => whnf)
        obtain ⟨e1, e2, e3⟩ := fin1 w3 A3 c3 [0x7d, x ^^^ 0x20] (n' + 2) rfl rfl ho3
        exact ⟨(k + 1, A3, n' + 2, c3), ⟨rfl, rfl, rfl, rfl, trivial⟩, ⟨e1, e2, e3, hk3⟩, by dsimp only; omega⟩)
    | false =>
      rw [he] at hE fin1
      have hE' : ¬ (x.toNat = 126 ∨ x.toNat = 125 ∨ (x.toNat < 32 ∧ ((m >>> x.toNat) &&& 1#32).toNat = 1)) := fun h => nomatch hE.2 h
      (repeat' (first  | (refine VCmp.mk (fun h => ?_) (fun h => ?_) <;> first | (exfalso; omega) | (conv => whnf))  | (refine VRes.i64 (by omega) ?_; conv => whnf)  | (refine VReq.mk (by omega) ?_; conv => whnf)))
      all_goals (try (refine VRes.u64 (by omega) ?_; (conv => whnf); refine VReq.mk (by omega) ?_; (conv => whnf)))
      all_goals (try (refine VRes.shr32 rfl ?_; (conv => whnf); refine VRes.and32 (y := 1#32) rfl ?_; (conv => whnf); refine VCmp.mk (fun h => ?_) (fun h => ?_) <;> first | (exfalso; exact hE' (.inr (.inr ⟨by omega, by omega⟩))) | (conv => whnf)))
      all_goals (
        refine VFill.by_ rfl ?_
        (conv => whnf)
        refine ⟨fun w2 hb2 hk2 => ?_⟩
        (conv => whnf)
        refine app8one (x := x) (hkeep.trans hk2) (hown.keepNo hk2) hb2 rfl (by omega) ?_
        intro A3 c3 w3 ho3 hk3 _ _
        (conv => whnf)
        refine VRes.i64 (by omega) ?_
        (conv => whnf)
        obtain ⟨e1, e2, e3⟩ := fin1 w3 A3 c3 [x] (n' + 1) rfl rfl ho3
        exact ⟨(k + 1, A3, n' + 1, c3), ⟨rfl, rfl, rfl, rfl, trivial⟩, ⟨e1, e2, e3, hk3⟩, by dsimp only; omega⟩)
  · have hkn : k = n := by omega
    subst hkn
    have hbd := stuffL_len m l
    rw [List.take_of_length_le (by omega)] at hn' hown
    refine VFill.by_ rfl ?_
    (conv => whnf)
    refine ⟨fun w2 hb2 hk2 => ?_⟩
    (conv => whnf)
    refine app8one (x := 0x7e) (hkeep.trans hk2) (hown.keepNo hk2) hb2 rfl (by omega) ?_
    intro A3 c3 w3 ho3 hk3 _ _
    (conv => whnf)
    exact ⟨A3, n' + 1, c3, rfl, ho3, hk3⟩
end Go.Proofs.YtpofkhjkdkkajaaDoor
