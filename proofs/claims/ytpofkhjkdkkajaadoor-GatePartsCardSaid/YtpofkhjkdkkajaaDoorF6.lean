/-
  Frames on the line: Wire, Read; the reference's.
-/
import Derived.Test.YtpofkhjkdkkajaaDoorF5
import Derived.Test.YtpofkhjkdkkajaaDoorR0
namespace Go.Proofs.YtpofkhjkdkkajaaDoor
open Go V

theorem Own.len8' {w : World} {base n c : Nat} {A : Option Addr} {l : List UInt8} (h : Own w base T8 1 A n c (l.map vb)) : n = l.length := by
  have := h.1
  simpa using this.symm
def wireP (p : Int) (l : List UInt8) (f : Fo) (m : BitVec 32) : List UInt8 × Int := if (encF p l f).2 = 0 then (stuffed m (addP (encF p l f).1), 0) else ([], (encF p l f).2)
theorem stuffed_le (m : BitVec 32) (l : List UInt8) : (stuffed m l).length ≤ 2 * l.length + 2 := by
  have := stuffL_len m l
  unfold stuffed
  simp
  omega
theorem wireP_len (p : Int) (l : List UInt8) (f : Fo) (m : BitVec 32) : (wireP p l f m).1.length ≤ 4000 := by
  unfold wireP
  split
  · have h1 := stuffed_le m (addP (encF p l f).1)
    have h2 := encF_len p l f
    rw [addP_len] at h1
    show (stuffed _ _).length ≤ _
    omega
  · simp


theorem refWire_ok (w : World) (p : Int) {A : Option Addr} {n c : Nat} {l : List UInt8} (f : Fo) (m : BitVec 32) (hs : Sl w 1 A n (l.map vb)) (hn : n ≤ 1000000) :
    VC Tryd.prog 8 [.int .i64 p, .slice A n c, f.v, vw m] w (fun v w' => BytesN w' w.heap.size v (wireP p l f m) ∧ Keep No w w') := by
  unfold Fo.v
  refine VC.of tt_ok Tryd.func8 rfl (by decide +kernel) (Nat.le_of_ble_eq_true rfl) ?_; (conv => whnf)
  refine ⟨fun w1 hb kp => ?_⟩; have hb_lt := Blk.lt hb; have kp_sz := kp.size; (conv => whnf)
  refine VLoads.blk hb rfl ?_
  (conv => whnf)
  refine (refEncode_ok w1 p f (hs.keepNo kp) hn).mono ?_
  rintro v w2 ⟨⟨A2, c2, rfl, ho2⟩, hk2⟩
  have kp := kp.keepNo hk2
  have hel := encF_len p l f
  (conv => whnf)
  refine VCmp.mk (fun h => ?_) (fun h => ?_) <;> (conv => whnf)
  · have e : wireP p l f m = ([], (encF p l f).2) := by unfold wireP; rw [if_neg h]
    rw [e]
    exact ⟨⟨none, 0, rfl, Own.nil _ _ _ _⟩, kp⟩
  · have e : wireP p l f m = (stuffed m (addP (encF p l f).1), 0) := by unfold wireP; rw [if_pos (by omega)]
    refine (refAdd_ok w2 (Sl.ofOwn ho2) (by omega)).mono ?_
    rintro v w3 ⟨A3, c3, rfl, ho3, hk3⟩
    have kp := kp.keepNo hk3
    (conv => whnf)
    refine (refStuff_ok w3 A3 _ c3 (addP (encF p l f).1) m (Sl.ofOwn ho3) (by omega)).mono ?_
    rintro v w4 ⟨A4, n4, c4, rfl, ho4, hk4⟩
    (conv => whnf)
    have hn4 := Own.len8' ho4
    subst hn4
    rw [e]
    exact ⟨⟨A4, c4, rfl, ho4.mono kp.size⟩, kp.trans hk4⟩

def readW (l : List UInt8) (f : Fo) : Int × List UInt8 × Int := if (checkP l).2 then decF (checkP l).1 f else (0, [], 5)
theorem checkP_len (l : List UInt8) : (checkP l).1.length ≤ l.length := by
  unfold checkP
  split
  · show (l.take _).length ≤ _
    rw [List.length_take]; omega
  · simp
theorem readW_len (l : List UInt8) (f : Fo) : (readW l f).2.1.length ≤ l.length := by
  have h1 := checkP_len l
  have h2 := decF_len (checkP l).1 f
  unfold readW
  split
  · omega
  · simp

theorem fRead_ok (w : World) {A : Option Addr} {n c : Nat} {l : List UInt8} (f : Fo) (hs : Sl w 1 A n (l.map vb)) (hn : n ≤ 1000000) (hnc : n ≤ c) (hg : EtOk w) :
    VC Tryd.prog 21 [.slice A n c, f.v] w (fun v w' => DecV w' w.heap.size v (readW l f) ∧ Keep No w w') := by
  have hl : l.length = n := by simpa using hs.len
  unfold Fo.v
  refine VC.of tt_ok Tryd.func21 rfl (by decide +kernel) (Nat.le_of_ble_eq_true rfl) ?_; (conv => whnf)
  refine ⟨fun w1 hb kp => ?_⟩; have hb_lt := Blk.lt hb; have kp_sz := kp.size; (conv => whnf)
  refine (fcheck_ok w1 (hs.keepNo kp) hn hnc).mono ?_
  rintro v w2 ⟨⟨A2, c2, rfl, ho2⟩, hk2⟩
  have kp := kp.keepNo hk2; have hb := hb.keepNo hk2
  have hcl := checkP_len l
  cases hc : (checkP l).2 with
  | false =>
    (conv => whnf)
    have e : readW l f = (0, [], 5) := by unfold readW; rw [hc]; rfl
    rw [e]
    exact ⟨⟨none, 0, rfl, Own.nil _ _ _ _⟩, kp⟩
  | true =>
    (conv => whnf)
    refine VLoads.blk hb rfl ?_
    (conv => whnf)
    refine (decode_ok w2 f (Sl.ofOwn ho2) (by omega) ho2.le (hg.keepNo kp)).mono ?_
    rintro v w3 ⟨⟨A3, c3, rfl, ho3⟩, hk3⟩
    (conv => whnf)
    have e : readW l f = decF (checkP l).1 f := by unfold readW; rw [if_pos hc]
    rw [e]
    exact ⟨⟨A3, c3, rfl, ho3.mono kp.size⟩, kp.trans hk3⟩

theorem refRead_ok (w : World) {A : Option Addr} {n c : Nat} {l : List UInt8} (f : Fo) (hs : Sl w 1 A n (l.map vb)) (hn : n ≤ 1000000) (hnc : n ≤ c) :
    VC Tryd.prog 25 [.slice A n c, f.v] w (fun v w' => DecV w' w.heap.size v (readW l f) ∧ Keep No w w') := by
  have hl : l.length = n := by simpa using hs.len
  unfold Fo.v
  refine VC.of tt_ok Tryd.func25 rfl (by decide +kernel) (Nat.le_of_ble_eq_true rfl) ?_; (conv => whnf)
  refine ⟨fun w1 hb kp => ?_⟩; have hb_lt := Blk.lt hb; have kp_sz := kp.size; (conv => whnf)
  refine (refCheck_ok w1 (hs.keepNo kp) hn hnc).mono ?_
  rintro v w2 ⟨⟨A2, c2, rfl, ho2⟩, hk2⟩
  have kp := kp.keepNo hk2; have hb := hb.keepNo hk2
  have hcl := checkP_len l
  cases hc : (checkP l).2 with
  | false =>
    (conv => whnf)
    have e : readW l f = (0, [], 5) := by unfold readW; rw [hc]; rfl
    rw [e]
    exact ⟨⟨none, 0, rfl, Own.nil _ _ _ _⟩, kp⟩
  | true =>
    (conv => whnf)
    refine VLoads.blk hb rfl ?_
    (conv => whnf)
    refine (refDecode_ok w2 f (Sl.ofOwn ho2) (by omega) ho2.le).mono ?_
    rintro v w3 ⟨⟨A3, c3, rfl, ho3⟩, hk3⟩
    (conv => whnf)
    have e : readW l f = decF (checkP l).1 f := by unfold readW; rw [if_pos hc]
    rw [e]
    exact ⟨⟨A3, c3, rfl, ho3.mono kp.size⟩, kp.trans hk3⟩
end Go.Proofs.YtpofkhjkdkkajaaDoor
