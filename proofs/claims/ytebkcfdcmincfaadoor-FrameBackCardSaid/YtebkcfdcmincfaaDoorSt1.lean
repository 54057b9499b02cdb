/-
  Package stuff: a byte's bit in a map; what is stuffed.
-/
import Derived.Test.YtebkcfdcmincfaaDoorSt0
namespace Go.Proofs.YtebkcfdcmincfaaDoor
open Go V

def mapB (c : UInt8) (m : BitVec 32) : Bool := decide (c.toNat < 32) && ((m >>> c.toNat) &&& 1#32 == 1#32)

theorem mapped_ok (w : World) (c : UInt8) (m : BitVec 32) : VC Tryd.prog 39 [vb c, vw m] w (fun v w' => v = .bool (mapB c m) ∧ w' = w) := by
  have hc := c.toNat_lt
  refine VC.of tt_ok Tryd.func39 rfl (by decide +kernel) (Nat.le_of_ble_eq_true rfl) ?_; (conv => whnf)
  (repeat' (first  | (refine VCmp.mk (fun h => ?_) (fun h => ?_) <;> first | (exfalso; omega) | (conv => whnf))  | (refine VRes.i64 (by omega) ?_; conv => whnf)  | (refine VReq.mk (by omega) ?_; conv => whnf)))
  · refine VRes.shr32 rfl ?_
    (conv => whnf)
    refine VRes.and32 (y := 1#32) rfl ?_
    (conv => whnf)
    refine VCmp.mk (fun h2 => ?_) (fun h2 => ?_) <;> (conv => whnf) <;> refine ⟨?_, rfl⟩
    · have e : (m >>> c.toNat) &&& 1#32 = 1#32 := BitVec.eq_of_toNat_eq (by have : (1#32).toNat = 1 := rfl; omega)
      have h' : c.toNat < 32 := by omega
      simp [vtup, mapB, e, h']
    · have e : ¬ ((m >>> c.toNat) &&& 1#32 = 1#32) := fun e => by rw [e] at h2; exact h2 rfl
      simp [vtup, mapB, e]
  · refine ⟨?_, rfl⟩
    have h' : ¬ c.toNat < 32 := by omega
    simp [vtup, mapB, h']

def escB (m : BitVec 32) (c : UInt8) : Bool := c == 0x7e || (c == 0x7d || mapB c m)
def stuffL (m : BitVec 32) (l : List UInt8) : List UInt8 := l.flatMap fun c => if escB m c then [0x7d, c ^^^ 0x20] else [c]
def stuffed (m : BitVec 32) (l : List UInt8) : List UInt8 := 0x7e :: stuffL m l ++ [0x7e]

theorem stuffL_snoc (m : BitVec 32) (l : List UInt8) (k : Nat) (x : UInt8) (h : l[k]? = some x) : stuffL m (l.take (k + 1)) = stuffL m (l.take k) ++ if escB m x then [0x7d, x ^^^ 0x20] else [x] := by
  rw [List.take_add_one, h]
  simp [stuffL]
theorem stuffL_len (m : BitVec 32) (l : List UInt8) : (stuffL m l).length ≤ 2 * l.length := by
  induction l with
  | nil => simp [stuffL]
  | cons x l ih =>
    have : stuffL m (x :: l) = (if escB m x then [0x7d, x ^^^ 0x20] else [x]) ++ stuffL m l := by simp [stuffL]
    rw [this]
    split <;> simp <;> omega

theorem stuff_ok (w : World) (A : Option Addr) (n c : Nat) (l : List UInt8) (m : BitVec 32) (hs : Sl w 1 A n (l.map vb)) (hn : n ≤ 1000000) :
    VC Tryd.prog 27 [.slice A n c, vw m] w (fun v w' => ∃ A' n' c', v = .slice A' n' c' ∧ Own w' w.heap.size 5 1 A' n' c' ((stuffed m l).map vb) ∧ Keep No w w') := by
  refine VC.of tt_ok Tryd.func27 rfl (by decide +kernel) (Nat.le_of_ble_eq_true rfl) ?_; (conv => whnf)
  refine VFill.by_ rfl ?_
  (conv => whnf)
  refine ⟨fun w1 hb1 hk1 => ?_⟩
  (conv => whnf)
  refine VLoop.by_ tt_ok (S := Nat × Option Addr × Nat × Nat) (fun | (k, A', n', c') => [(1, vw m), (5, .slice A' n' c'), (9, .slice A n c), (10, .int .i64 n), (11, .int .i64 k)])
    (fun | (k, A', n', c') => fun w' => k ≤ n ∧ n' = (stuffL m (l.take k)).length + 1 ∧ Own w' w.heap.size 5 1 A' n' c' ((0x7e :: stuffL m (l.take k)).map vb) ∧ Keep No w w') (fun | (k, _, _, _) => n - k)
    (0, some ⟨w.heap.size, 0, none⟩, 1, 1) ⟨rfl, rfl, rfl, rfl, rfl, trivial⟩ ⟨by simp, by simp [stuffL], ?_, hk1⟩ ?_
  · exact Own.new (n := 1) hb1 (Nat.le_refl _) rfl (by unfold maxLen; omega)
  rintro ⟨k, A', n', c'⟩ w' ⟨hk, hn', hown, hkeep⟩
  have hl : l.length = n := by simpa using hs.len
  (conv => whnf)
  refine VCmp.mk (fun h => ?_) (fun h => ?_) <;> (conv => whnf)
  · obtain ⟨x, hx⟩ : ∃ x, l[k]? = some x := ⟨_, List.getElem?_eq_getElem (by omega)⟩
    obtain ⟨b, o, hA, hc⟩ := (hs.keepNo hkeep).at_ (by omega)
    refine VIdx.one k rfl (by omega) hA ?_
    (conv => whnf)
    refine VLoad.by_ (hc k (vb x) (by simp [hx])) ?_
    (conv => whnf)
    have hsn := stuffL_snoc m l k x hx
    have hbd := stuffL_len m (l.take k)
    have hbt : (l.take k).length ≤ n := by rw [List.length_take]; omega
    have fin1 : ∀ (w2 : World) (A2 : Option Addr) (c2 : Nat) (ys : List UInt8) (nn : Nat), (ys = if escB m x then [0x7d, x ^^^ 0x20] else [x]) → nn = n' + ys.length → Own w2 w.heap.size T8 1 A2 nn c2 (((0x7e :: stuffL m (l.take k)) ++ ys).map vb) →
        k + 1 ≤ n ∧ nn = (stuffL m (l.take (k + 1))).length + 1 ∧ Own w2 w.heap.size T8 1 A2 nn c2 ((0x7e :: stuffL m (l.take (k + 1))).map vb) := by
      intro w2 A2 c2 ys nn hy hnn ho
      rw [hsn, ← hy]
      exact ⟨by omega, by rw [List.length_append]; omega, by simpa using ho⟩
    have hesc1 : x.toNat = 126 → escB m x = true := fun h => by
      have : x = 0x7e := UInt8.toNat_inj.1 h
      subst this; rfl
    have hesc2 : x.toNat = 125 → escB m x = true := fun h => by
      have : x = 0x7d := UInt8.toNat_inj.1 h
      subst this; rfl
    have hesc3 : mapB x m = true → escB m x = true := fun h => by simp [escB, h]
    have hesc4 : ¬ x.toNat = 126 → ¬ x.toNat = 125 → mapB x m = false → escB m x = false := fun h1 h2 h3 => by
      simp only [escB, h3, Bool.or_false, Bool.or_eq_false_iff, beq_eq_false_iff_ne]
      exact ⟨fun e => h1 (by rw [e]; rfl), fun e => h2 (by rw [e]; rfl)⟩
    clear hsn
    (repeat' (first  | (refine VCmp.mk (fun h => ?_) (fun h => ?_) <;> first | (exfalso; omega) | (conv => whnf))  | (refine VRes.i64 (by omega) ?_; conv => whnf)  | (refine VReq.mk (by omega) ?_; conv => whnf)))
    rotate_left 2
    · refine (mapped_ok _ x m).mono ?_
      rintro v w2 ⟨rfl, rfl⟩
      cases hm : mapB x m <;> (conv => whnf)
      · have he := hesc4 (by omega) (by omega) hm
        refine VFill.by_ rfl ?_
        (conv => whnf)
        refine ⟨fun w2 hb2 hk2 => ?_⟩
        (conv => whnf)
        refine app8one (x := x) (hkeep.trans hk2) (hown.keepNo hk2) hb2 rfl (by omega) ?_
        intro A3 c3 w3 ho3 hk3 _ _
        (conv => whnf)
        refine VRes.i64 (by omega) ?_
        (conv => whnf)
        obtain ⟨e1, e2, e3⟩ := fin1 w3 A3 c3 _ _ (by rw [he]; rfl) rfl ho3
        exact ⟨(k + 1, A3, n' + 1, c3), ⟨rfl, rfl, rfl, rfl, rfl, trivial⟩, ⟨e1, e2, e3, hk3⟩, by dsimp only; omega⟩
      · have he := hesc3 hm
        refine VFill.by_ rfl ?_
        (conv => whnf)
        refine ⟨fun w2 hb2 hk2 => ?_⟩
        (conv => whnf)
        refine app8one (x := 0x7d) (hkeep.trans hk2) (hown.keepNo hk2) hb2 rfl (by omega) ?_
        intro A3 c3 w3 ho3 hk3 _ _
        (conv => whnf)
        refine VRes.xor8 (y := 0x20) rfl ?_
        (conv => whnf)
        refine VFill.by_ rfl ?_
        (conv => whnf)
        refine ⟨fun w4 hb4 hk4 => ?_⟩
        (conv => whnf)
        refine app8one (x := x ^^^ 0x20) (hk3.trans hk4) (ho3.keepNo hk4) hb4 rfl (by omega) ?_
        intro A5 c5 w5 ho5 hk5 _ _
        (conv => whnf)
        refine VRes.i64 (by omega) ?_
        (conv => whnf)
        obtain ⟨e1, e2, e3⟩ := fin1 w5 A5 c5 [0x7d, x ^^^ 0x20] (n' + 1 + 1) (by rw [he]; rfl) rfl (by simpa using ho5)
        exact ⟨(k + 1, A5, n' + 1 + 1, c5), ⟨rfl, rfl, rfl, rfl, rfl, trivial⟩, ⟨e1, e2, e3, hk5⟩, by dsimp only; omega⟩
    · have he := hesc1 (by omega)
      refine VFill.by_ rfl ?_
      (conv => whnf)
      refine ⟨fun w2 hb2 hk2 => ?_⟩
      (conv => whnf)
      refine app8one (x := 0x7d) (hkeep.trans hk2) (hown.keepNo hk2) hb2 rfl (by omega) ?_
      intro A3 c3 w3 ho3 hk3 _ _
      (conv => whnf)
      refine VRes.xor8 (y := 0x20) rfl ?_
      (conv => whnf)
      refine VFill.by_ rfl ?_
      (conv => whnf)
      refine ⟨fun w4 hb4 hk4 => ?_⟩
      (conv => whnf)
      refine app8one (x := x ^^^ 0x20) (hk3.trans hk4) (ho3.keepNo hk4) hb4 rfl (by omega) ?_
      intro A5 c5 w5 ho5 hk5 _ _
      (conv => whnf)
      refine VRes.i64 (by omega) ?_
      (conv => whnf)
      obtain ⟨e1, e2, e3⟩ := fin1 w5 A5 c5 [0x7d, x ^^^ 0x20] (n' + 1 + 1) (by rw [he]; rfl) rfl (by simpa using ho5)
      exact ⟨(k + 1, A5, n' + 1 + 1, c5), ⟨rfl, rfl, rfl, rfl, rfl, trivial⟩, ⟨e1, e2, e3, hk5⟩, by dsimp only; omega⟩
    · have he := hesc2 (by omega)
      refine VFill.by_ rfl ?_
      (conv => whnf)
      refine ⟨fun w2 hb2 hk2 => ?_⟩
      (conv => whnf)
      refine app8one (x := 0x7d) (hkeep.trans hk2) (hown.keepNo hk2) hb2 rfl (by omega) ?_
      intro A3 c3 w3 ho3 hk3 _ _
      (conv => whnf)
      refine VRes.xor8 (y := 0x20) rfl ?_
      (conv => whnf)
      refine VFill.by_ rfl ?_
      (conv => whnf)
      refine ⟨fun w4 hb4 hk4 => ?_⟩
      (conv => whnf)
      refine app8one (x := x ^^^ 0x20) (hk3.trans hk4) (ho3.keepNo hk4) hb4 rfl (by omega) ?_
      intro A5 c5 w5 ho5 hk5 _ _
      (conv => whnf)
      refine VRes.i64 (by omega) ?_
      (conv => whnf)
      obtain ⟨e1, e2, e3⟩ := fin1 w5 A5 c5 [0x7d, x ^^^ 0x20] (n' + 1 + 1) (by rw [he]; rfl) rfl (by simpa using ho5)
      exact ⟨(k + 1, A5, n' + 1 + 1, c5), ⟨rfl, rfl, rfl, rfl, rfl, trivial⟩, ⟨e1, e2, e3, hk5⟩, by dsimp only; omega⟩
  · have hkn : k = n := by omega
    subst hkn
    have hbd := stuffL_len m l
    rw [List.take_of_length_le (by omega)] at hn' hown
    refine VFill.by_ rfl ?_
    (conv => whnf)
    refine ⟨fun w2 hb2 hk2 => ?_⟩
    (conv => whnf)
    refine app8one (x := 0x7e) (hkeep.trans hk2) (hown.keepNo hk2) hb2 rfl (by omega) ?_
    intro A3 c3 w3 ho3 hk3 _ _
    (conv => whnf)
    exact ⟨A3, n' + 1, c3, rfl, ho3, hk3⟩
end Go.Proofs.YtebkcfdcmincfaaDoor
