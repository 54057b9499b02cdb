/-
  Bytes with their sum, and without: the program's and the reference's.
-/
import Derived.Test.YtpofkhjkdkkajaaDoorF2
namespace Go.Proofs.YtpofkhjkdkkajaaDoor
open Go V

def sumB (s : BitVec 16) (i : Nat) : UInt8 := UInt8.ofNat (s >>> (8 * i)).toNat
def addP (l : List UInt8) : List UInt8 := l ++ [sumB (csum l) 0, sumB (csum l) 1]
theorem addP_len (l : List UInt8) : (addP l).length = l.length + 2 := by simp [addP]

theorem fadd_ok (w : World) {A : Option Addr} {n c : Nat} {l : List UInt8} (hs : Sl w 1 A n (l.map vb)) (hn : n ≤ 1000000) :
    VC Tryd.prog 45 [.slice A n c] w (fun v w' => ∃ A' c', v = .slice A' (n + 2) c' ∧ Own w' w.heap.size T8 1 A' (n + 2) c' ((addP l).map vb) ∧ Keep No w w') := by
  have core : ∀ (s : BitVec 16), VC Tryd.prog 52 [.slice A n c, vh s, .int .i64 2] w (fun v w' => ∃ A' c', v = .slice A' (n + 2) c' ∧ Own w' w.heap.size T8 1 A' (n + 2) c' ((l ++ [sumB s 0, sumB s 1]).map vb) ∧ Keep No w w') := by
    intro s
    refine VC.of tt_ok Tryd.func52 rfl (by decide +kernel) (Nat.le_of_ble_eq_true rfl) ?_; (conv => whnf)
    refine app8 (w0 := w) (Keep.refl _ _) (xs := []) (Own.nil _ _ _ _) hs (by omega) ?_
    intro A1 c1 w1 ho1 hk1 _ _
    (conv => whnf)
    rw [Nat.zero_add] at ho1
    rw [Nat.zero_add]
    refine VLoop.by_ tt_ok (S := Nat × Option Addr × Nat) (fun | (k, A', c') => [(1, vh s), (7, .slice A' (n + k) c'), (11, .int .i64 2), (12, .int .i64 k)])
      (fun | (k, A', c') => fun w' => k ≤ 2 ∧ Own w' w.heap.size T8 1 A' (n + k) c' ((l ++ (List.range k).map (sumB s)).map vb) ∧ Keep No w w') (fun | (k, _, _) => 2 - k) (0, A1, c1)
      ⟨rfl, rfl, rfl, rfl, trivial⟩ ⟨by omega, by simpa using ho1, hk1⟩ ?_
    rintro ⟨k, A2, c2⟩ w2 ⟨hk, hown, kp⟩
    (conv => whnf)
    refine VCmp.mk (fun h => ?_) (fun h => ?_) <;> (conv => whnf)
    · refine VRes.i64 (by omega) ?_; (conv => whnf)
      refine VReq.mk (by omega) ?_
      refine VRes.shr16 (k := 8 * k) rfl (by omega) (by omega) ?_
      (conv => whnf)
      refine VRes.byte (N := (s >>> (8 * k)).toNat) rfl ?_
      (conv => whnf)
      refine VFill.by_ rfl ?_; (conv => whnf)
      refine ⟨fun w3 hb3 hk3 => ?_⟩; have hb3_lt := Blk.lt hb3; have hk3_sz := hk3.size; (conv => whnf)
      have kp := kp.keepNo hk3; have hown := hown.keepNo hk3
      refine app8one (w0 := w) (x := sumB s k) kp hown hb3 rfl (by omega) ?_
      intro A4 c4 w4 ho4 hk4 _ _
      (conv => whnf)
      refine VRes.i64 (by omega) ?_; (conv => whnf)
      refine ⟨(k + 1, A4, c4), ⟨rfl, rfl, rfl, rfl, trivial⟩, ⟨by omega, ?_, hk4⟩, by dsimp only; omega⟩
      have e : (List.range (k + 1)).map (sumB s) = (List.range k).map (sumB s) ++ [sumB s k] := by rw [List.range_succ, List.map_append]; rfl
      rw [e, ← List.append_assoc]
      exact ho4
    · obtain rfl : k = 2 := by omega
      exact ⟨A2, c2, rfl, hown, kp⟩
  refine VC.of tt_ok Tryd.func45 rfl (by decide +kernel) (Nat.le_of_ble_eq_true rfl) ?_; (conv => whnf)
  refine (sum16_ok w hs hn).mono ?_
  rintro v w' ⟨rfl, rfl⟩
  (conv => whnf)
  refine (core (csum l)).mono ?_
  rintro v w' ⟨A', c', rfl, h1, h2⟩
  (conv => whnf)
  exact ⟨A', c', rfl, h1, h2⟩

theorem refAdd_ok (w : World) {A : Option Addr} {n c : Nat} {l : List UInt8} (hs : Sl w 1 A n (l.map vb)) (hn : n ≤ 1000000) :
    VC Tryd.prog 18 [.slice A n c] w (fun v w' => ∃ A' c', v = .slice A' (n + 2) c' ∧ Own w' w.heap.size T8 1 A' (n + 2) c' ((addP l).map vb) ∧ Keep No w w') := by
  refine VC.of tt_ok Tryd.func18 rfl (by decide +kernel) (Nat.le_of_ble_eq_true rfl) ?_; (conv => whnf)
  refine (refSum16_ok w hs hn).mono ?_
  rintro v w' ⟨rfl, rfl⟩
  (conv => whnf)
  refine (copy_ok w hs (by omega)).mono ?_
  rintro v w1 ⟨A1, c1, rfl, ho1, hk1⟩
  (conv => whnf)
  refine VRes.byte (N := (csum l >>> (8 * 0)).toNat) rfl ?_
  (conv => whnf)
  refine VReq.mk (by omega) ?_
  refine VRes.shr16 (k := 8) rfl rfl (by decide) ?_
  (conv => whnf)
  refine VRes.byte (N := (csum l >>> (8 * 1)).toNat) rfl ?_
  (conv => whnf)
  refine VFill.by_ rfl ?_; (conv => whnf)
  refine ⟨fun w2 hb2 hk2 => ?_⟩; have hb2_lt := Blk.lt hb2; have hk2_sz := hk2.size; (conv => whnf)
  have hk1 := hk1.keepNo hk2; have ho1 := ho1.keepNo hk2
  refine app8 (w0 := w) hk1 ho1 (ys := [sumB (csum l) 0, sumB (csum l) 1]) (Sl.ofBlk (n := 2) (size := 1) hb2 rfl) (by omega) ?_
  intro A3 c3 w3 ho3 hk3 _ _
  (conv => whnf)
  exact ⟨A3, c3, rfl, ho3, hk3⟩

/-- What is ahead of the sum, and whether it is right. -/
def checkP (l : List UInt8) : List UInt8 × Bool := if 2 ≤ l.length ∧ addP (l.take (l.length - 2)) = l then (l.take (l.length - 2), true) else ([], false)
def BytesB (w : World) (base : Nat) (v : Value) (r : List UInt8 × Bool) : Prop := ∃ A c, v = .tuple #[.slice A r.1.length c, .bool r.2] ∧ Own w base T8 1 A r.1.length c (r.1.map vb)

theorem fcheck_ok (w : World) {A : Option Addr} {n c : Nat} {l : List UInt8} (hs : Sl w 1 A n (l.map vb)) (hn : n ≤ 1000000) (hnc : n ≤ c) :
    VC Tryd.prog 33 [.slice A n c] w (fun v w' => BytesB w' w.heap.size v (checkP l) ∧ Keep No w w') := by
  have hl : l.length = n := by simpa using hs.len
  have core : VC Tryd.prog 44 [.slice A n c, .int .i64 2, .func (.func 45) #[] #[]] w (fun v w' => BytesB w' w.heap.size v (checkP l) ∧ Keep No w w') := by
    refine VC.of tt_ok Tryd.func44 rfl (by decide +kernel) (Nat.le_of_ble_eq_true rfl) ?_; (conv => whnf)
    refine VCmp.mk (fun h => ?_) (fun h => ?_) <;> (conv => whnf)
    · have e : checkP l = ([], false) := by unfold checkP; rw [if_neg (by omega)]
      rw [e]
      exact ⟨⟨none, 0, rfl, Own.nil _ _ _ _⟩, Keep.refl _ _⟩
    refine VRes.i64 (by omega) ?_; (conv => whnf)
    refine VCut.by_ 0 (n - 2) rfl (by omega) (by omega) (by omega) ?_
    intro A1 hA1
    have hcut := Sl.cut8 hs (l := 0) (h := n - 2) (by omega) (by omega) hnc hA1
    rw [List.drop_zero] at hcut
    rw [Nat.sub_zero] at hcut
    (conv => whnf)
    refine app8 (w0 := w) (Keep.refl _ _) (xs := []) (Own.nil _ _ _ _) hcut (by omega) ?_
    intro A2 c2 w2 ho2 kp _ _
    rw [Nat.zero_add, List.nil_append] at ho2
    (conv => whnf)
    rw [Nat.zero_add]
    refine VDraw.by_ tt_ok rfl (.take 0 (.take 1 (.take 4 (.two 2 (.two 3 (.one 5 (.take 6 .done)) 5 (.one 3 (.take 6 .done))) 5 (.one 2 (.one 3 (.take 6 .done))))))) (by decide +kernel) (fun x => Keep No w x) (fun x h1 h2 h3 h4 => kp.trans (Keep.ofHeap h1 h2 h3 h4)) (fun wd hd kd => ?_)
    have kp := kp.keepNo kd; have ho2 := ho2.keepNo kd
    (conv => whnf)
    have bad : addP (l.take (n - 2)) ≠ l → checkP l = ([], false) := fun h2 => by unfold checkP; rw [if_neg (fun e => h2 (by rw [← hl]; exact e.2))]
    have good : addP (l.take (n - 2)) = l → checkP l = (l.take (n - 2), true) := fun h2 => by unfold checkP; rw [if_pos ⟨by omega, by rw [hl]; exact h2⟩, hl]
    refine ⟨?_, ?_⟩
    · skip
      refine (fadd_ok _ (Sl.ofOwn ho2) (by omega)).mono ?_
      rintro v w3 ⟨A3, c3, rfl, ho3, hk3⟩
      have kp := kp.keepNo hk3; have ho2 := ho2.keepNo hk3
      (conv => whnf)
      refine VOwe.same kp ?_
      (conv => whnf)
      refine ⟨?_, ?_⟩
      · skip
        refine VConv.toStr (Sl.ofOwn ho3) ?_
        (conv => whnf)
        refine VOwe.same kp ?_
        (conv => whnf)
        refine VConv.toStr (hs.keepNo kp) ?_
        (conv => whnf)
        refine VOwe.same kp ?_
        (conv => whnf)
        refine VCmp.mk (fun h2 => ?_) (fun h2 => ?_) <;> (conv => whnf)
        · rw [bad (fun e => h2 (by rw [e]))]
          exact ⟨⟨none, 0, rfl, Own.nil _ _ _ _⟩, kp⟩
        · have e := good (sb_inj (Decidable.byContradiction h2))
          have hlen : (checkP l).1.length = n - 2 := by rw [e]; show (l.take (n - 2)).length = _; rw [List.length_take]; omega
          refine ⟨⟨A2, c2, ?_, ?_⟩, kp⟩
          · rw [hlen, e]; rfl
          · rw [hlen, e]; exact ho2
      · skip
        refine VConv.toStr (hs.keepNo kp) ?_
        (conv => whnf)
        refine VOwe.same kp ?_
        (conv => whnf)
        refine VConv.toStr (Sl.ofOwn ho3) ?_
        (conv => whnf)
        refine VOwe.same kp ?_
        (conv => whnf)
        refine VCmp.mk (fun h2 => ?_) (fun h2 => ?_) <;> (conv => whnf)
        · rw [bad (fun e => h2 (by rw [e]))]
          exact ⟨⟨none, 0, rfl, Own.nil _ _ _ _⟩, kp⟩
        · have e := good (sb_inj (Decidable.byContradiction h2))
          have hlen : (checkP l).1.length = n - 2 := by rw [e]; show (l.take (n - 2)).length = _; rw [List.length_take]; omega
          refine ⟨⟨A2, c2, ?_, ?_⟩, kp⟩
          · rw [hlen, e]; rfl
          · rw [hlen, e]; exact ho2
    · skip
      refine VConv.toStr (hs.keepNo kp) ?_
      (conv => whnf)
      refine VOwe.same kp ?_
      (conv => whnf)
      refine (fadd_ok _ (Sl.ofOwn ho2) (by omega)).mono ?_
      rintro v w3 ⟨A3, c3, rfl, ho3, hk3⟩
      have kp := kp.keepNo hk3; have ho2 := ho2.keepNo hk3
      (conv => whnf)
      refine VOwe.same kp ?_
      (conv => whnf)
      refine VConv.toStr (Sl.ofOwn ho3) ?_
      (conv => whnf)
      refine VOwe.same kp ?_
      (conv => whnf)
      refine VCmp.mk (fun h2 => ?_) (fun h2 => ?_) <;> (conv => whnf)
      · rw [bad (fun e => h2 (by rw [e]))]
        exact ⟨⟨none, 0, rfl, Own.nil _ _ _ _⟩, kp⟩
      · have e := good (sb_inj (Decidable.byContradiction h2))
        have hlen : (checkP l).1.length = n - 2 := by rw [e]; show (l.take (n - 2)).length = _; rw [List.length_take]; omega
        refine ⟨⟨A2, c2, ?_, ?_⟩, kp⟩
        · rw [hlen, e]; rfl
        · rw [hlen, e]; exact ho2
  refine VC.of tt_ok Tryd.func33 rfl (by decide +kernel) (Nat.le_of_ble_eq_true rfl) ?_; (conv => whnf)
  refine core.mono ?_
  rintro v w' ⟨⟨A', c', rfl, h1⟩, h2⟩
  (conv => whnf)
  exact ⟨⟨A', c', rfl, h1⟩, h2⟩

theorem refCheck_ok (w : World) {A : Option Addr} {n c : Nat} {l : List UInt8} (hs : Sl w 1 A n (l.map vb)) (hn : n ≤ 1000000) (hnc : n ≤ c) :
    VC Tryd.prog 37 [.slice A n c] w (fun v w' => BytesB w' w.heap.size v (checkP l) ∧ Keep No w w') := by
  have hl : l.length = n := by simpa using hs.len
  refine VC.of tt_ok Tryd.func37 rfl (by decide +kernel) (Nat.le_of_ble_eq_true rfl) ?_; (conv => whnf)
  refine VRes.i64 (by omega) ?_; (conv => whnf)
  refine VCmp.mk (fun h => ?_) (fun h => ?_) <;> (conv => whnf)
  · have e : checkP l = ([], false) := by unfold checkP; rw [if_neg (by omega)]
    rw [e]
    exact ⟨⟨none, 0, rfl, Own.nil _ _ _ _⟩, Keep.refl _ _⟩
  have bad : addP (l.take (n - 2)) ≠ l → checkP l = ([], false) := fun h2 => by unfold checkP; rw [if_neg (fun e => h2 (by rw [← hl]; exact e.2))]
  have good : addP (l.take (n - 2)) = l → checkP l = (l.take (n - 2), true) := fun h2 => by unfold checkP; rw [if_pos ⟨by omega, by rw [hl]; exact h2⟩, hl]
  have cut : ∀ A1, A1 = (if c = 0 then A else A.map (·.add (0 * 1))) → Sl w 1 A1 (n - 2 - 0) ((l.take (n - 2)).map vb) := fun A1 hA1 => by
    have hcut := Sl.cut8 hs (l := 0) (h := n - 2) (by omega) (by omega) hnc hA1
    rw [List.drop_zero] at hcut
    exact hcut
  refine VCut.by_ 0 (n - 2) rfl (by omega) (by omega) (by omega) ?_
  intro A1 hA1
  (conv => whnf)
  refine (refAdd_ok w (cut A1 hA1) (by omega)).mono ?_
  rintro v w1 ⟨A2, c2, rfl, ho2, kp⟩
  (conv => whnf)
  refine (same_ok w1 (Sl.ofOwn ho2) (hs.keepNo kp) (by omega)).mono ?_
  rintro v w2 ⟨rfl, hk2⟩
  have kp := kp.keepNo hk2
  by_cases h2 : addP (l.take (n - 2)) = l
  · rw [decide_eq_true h2]
    (conv => whnf)
    refine VCut.by_ 0 (n - 2) rfl (by omega) (by omega) (by omega) ?_
    intro A3 hA3
    (conv => whnf)
    refine (copy_ok w2 ((cut A3 hA3).keepNo kp) (by omega)).mono ?_
    rintro v w3 ⟨A4, c4, rfl, ho4, hk4⟩
    (conv => whnf)
    have e := good h2
    have hlen : (checkP l).1.length = n - 2 - 0 := by rw [e]; show (l.take (n - 2)).length = _; rw [List.length_take]; omega
    refine ⟨⟨A4, c4, ?_, ?_⟩, kp.trans hk4⟩
    · rw [hlen, e]; rfl
    · rw [hlen, e]; exact ho4.mono kp.size
  · rw [decide_eq_false h2]
    (conv => whnf)
    rw [bad h2]
    exact ⟨⟨none, 0, rfl, Own.nil _ _ _ _⟩, kp⟩
end Go.Proofs.YtpofkhjkdkkajaaDoor
