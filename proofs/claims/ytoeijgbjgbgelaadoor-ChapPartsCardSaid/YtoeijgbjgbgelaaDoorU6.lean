/-
  Law 9: an answer is three blocks, each of which hangs on its part of the hash alone.
-/
import Derived.Test.YtoeijgbjgbgelaaDoorU3
import Derived.Test.YtoeijgbjgbgelaaDoorD9
import Derived.Test.YtoeijgbjgbgelaaDoorAr
namespace Go.Proofs.YtoeijgbjgbgelaaDoor
open Go V Go.ChangeShapes Go.WideShapes Go.ChangeAt Go.RowKit

/-- Slices of bytes laid one behind the other. -/
theorem all_ok (w : World) {A : Option Addr} {n c : Nat} {va : List Value} {fs : List (List UInt8)} {X : Nat → Prop} (hs : Sl w 1 A n va) (he : Els w X va fs) (hn : n ≤ 1000) (hf : ∀ f ∈ fs, f.length ≤ 1000) :
    VC Tryd.prog 23 [.slice A n c] w (fun v w' => (∃ A' c', v = .slice A' fs.flatten.length c' ∧ Own w' w.heap.size T8 1 A' fs.flatten.length c' (fs.flatten.map vb)) ∧ Keep No w w') := by
  have hl : va.length = n := by simpa using hs.len
  have hfl : fs.length = n := by rw [← he.1, hl]
  have hbound : ∀ k, k ≤ n → (fs.take k).flatten.length ≤ 1000 * k := by
    intro k
    induction k with
    | zero => intro _; simp
    | succ k ih =>
      intro hk
      rw [List.take_add_one, List.getElem?_eq_getElem (by omega), List.flatten_append, List.length_append]
      have := ih (by omega)
      have h2 := hf _ (List.getElem_mem (show k < fs.length by omega))
      have e : ((some (fs[k]'(by omega))).toList).flatten = fs[k]'(by omega) := by simp
      rw [e]
      omega
  refine VC.of tt_ok Tryd.func23 rfl (by decide +kernel) (Nat.le_of_ble_eq_true rfl) ?_; (conv => whnf)
  refine VLoop.by_ tt_ok (S := Nat × Option Addr × Nat) (fun | (k, Al, cl) => [(3, .slice Al (fs.take k).flatten.length cl), (6, .slice A n c), (7, .int .i64 n), (8, .int .i64 k)])
    (fun | (k, Al, cl) => fun w' => k ≤ n ∧ Own w' w.heap.size T8 1 Al (fs.take k).flatten.length cl ((fs.take k).flatten.map vb) ∧ Keep No w w') (fun | (k, _) => n - k)
    (0, none, 0) ⟨rfl, rfl, rfl, rfl, trivial⟩ ⟨by omega, Own.nil _ _ _ _, Keep.refl _ _⟩ ?_
  rintro ⟨k, Al, cl⟩ w' ⟨hk, hown, kk⟩
  have hb := hbound k hk
  (conv => whnf)
  refine VCmp.mk (fun h => ?_) (fun h => ?_) <;> (conv => whnf)
  rotate_left 1
  · obtain rfl : k = n := by omega
    rw [List.take_of_length_le (by omega)] at *
    exact ⟨⟨Al, cl, rfl, hown⟩, kk⟩
  obtain ⟨b, o, hA, hc⟩ := hs.at_ (by omega)
  have hg : fs[k]? = some fs[k] := List.getElem?_eq_getElem (by omega)
  obtain ⟨x, hx, Ax, cx, rfl, hcx, hsx, _⟩ := he.2 k _ hg
  have h2 := hf _ (List.getElem_mem (show k < fs.length by omega))
  refine VIdx.one k rfl (by omega) hA ?_
  (conv => whnf)
  refine VLoad.by_ (kk.cell (hc k _ hx) id) ?_
  (conv => whnf)
  refine appBd (w0 := w) kk hown (hsx.keepNo kk) (by omega) ?_
  intro A4 c4 w4 ho4 k4 _
  (conv => whnf)
  refine VRes.i64 (by omega) ?_; (conv => whnf)
  have e : (fs.take (k + 1)).flatten = (fs.take k).flatten ++ fs[k] := by
    rw [List.take_add_one, hg, List.flatten_append]; simp
  exact ⟨(k + 1, A4, c4), ⟨by rw [e, List.length_append]; rfl, rfl, rfl, rfl, trivial⟩, ⟨by omega, by rw [e, List.length_append]; exact ho4, k4⟩, by dsimp only; omega⟩

def ansK (h x : List UInt8) : Nat → List UInt8
  | 0 => []
  | k + 1 => ansK h x k ++ desP (((h ++ List.replicate 5 0).take (7 * k + 7)).drop (7 * k)) x
theorem desP_len' (key x : List UInt8) : (desP key x).length = 8 := by
  have hb : ∀ k, (backK ((roundsP key x 16).2 ++ (roundsP key x 16).1) k).length = 64 := by
    intro k
    induction k with
    | zero => simp [backK]
    | succ k ih => rw [backK, List.length_set, ih]
  unfold desP bytesP
  rw [byteK_len, hb]
theorem ansK_len (h x : List UInt8) (k : Nat) : (ansK h x k).length = 8 * k := by
  induction k with
  | zero => rfl
  | succ k ih => rw [ansK, List.length_append, ih, desP_len']; omega
theorem ansK_part (h x : List UInt8) : ∀ k i, i < k → ((ansK h x k).take (8 * i + 8)).drop (8 * i) = desP (((h ++ List.replicate 5 0).take (7 * i + 7)).drop (7 * i)) x := by
  intro k
  induction k with
  | zero => intro i hi; omega
  | succ k ih =>
    intro i hi
    have hl := ansK_len h x k
    rcases Nat.lt_or_ge i k with h1 | h1
    · rw [ansK, List.take_append_of_le_length (by omega), ih i h1]
    · obtain rfl : i = k := by omega
      have hd := desP_len' (((h ++ List.replicate 5 0).take (7 * i + 7)).drop (7 * i)) x
      rw [ansK, List.take_of_length_le (by rw [List.length_append]; omega), List.drop_left' hl]

set_option maxHeartbeats 1000000 in
theorem Answer_ok (w : World) {A B : Option Addr} {c d : Nat} {x h : List UInt8} (hx : Sl w 1 A 8 (x.map vb)) (hh : Sl w 1 B 16 (h.map vb)) (hd16 : 16 ≤ d) :
    VC Tryd.prog 17 [.slice A 8 c, .slice B 16 d] w (fun v w' => (∃ A' c', v = .tuple #[.slice A' 24 c', .int .i64 0] ∧ Own w' w.heap.size T8 1 A' 24 c' ((ansK h x 3).map vb)) ∧ Keep No w w') := by
  have hhl : h.length = 16 := by simpa using hh.len
  refine VC.of tt_ok Tryd.func17 rfl (by decide +kernel) (Nat.le_of_ble_eq_true rfl) ?_; (conv => whnf)
  refine VCmp.mk (fun h => absurd rfl h) (fun _ => ?_); (conv => whnf)
  refine VCmp.mk (fun h => absurd rfl h) (fun _ => ?_); (conv => whnf)
  refine VMake.row_ (n := 5) (z := vb 0) (bytes := 1) Tryd.underlying23 (by kernel_rfl) rfl (by omega) (by omega) ?_
  intro w1 hq kp
  have hq : Blk w1 w.heap.size T8 ((List.replicate 5 0).map vb) := by rw [List.map_replicate]; exact hq
  have hx := hx.keepNo kp; have hh := hh.keepNo kp
  (conv => whnf)
  refine VFill.by_ rfl ?_; (conv => whnf)
  refine ⟨fun w2 hb2 k2 => ?_⟩
  have kp := kp.keepNo k2; have hx := hx.keepNo k2; have hh := hh.keepNo k2; have hq := hq.keepNo k2
  (conv => whnf)
  refine (all_ok w2 (n := 2) (fs := [h, List.replicate 5 0]) (X := fun _ => True) (Sl.ofBlk (n := 2) (size := 1) hb2 rfl) ⟨rfl, ?_⟩ (by omega) ?_).mono ?_
  · intro i f hf
    match i, hf with
    | 0, hf =>
      obtain rfl : h = f := by simpa using hf
      exact ⟨_, rfl, B, d, by rw [hhl], by rw [hhl]; exact hd16, by rw [hhl]; exact hh, fun _ _ _ => trivial⟩
    | 1, hf =>
      obtain rfl : List.replicate 5 0 = f := by simpa using hf
      exact ⟨_, rfl, _, 5, rfl, by simp, Sl.ofBlk (n := 5) (size := 1) hq rfl, fun _ _ _ => trivial⟩
    | i + 2, hf => simp at hf
  · intro f hf
    simp at hf
    rcases hf with rfl | rfl
    · omega
    · simp
  rintro v w3 ⟨⟨A3, c3, rfl, ho3⟩, k3⟩
  obtain ⟨K, hK⟩ : ∃ K, K = h ++ List.replicate 5 0 := ⟨_, rfl⟩
  have e : [h, List.replicate 5 0].flatten = K := by rw [hK]; simp
  rw [e] at ho3
  have hKl : K.length = 21 := by rw [hK, List.length_append, hhl]; rfl
  rw [e, hKl]
  rw [hKl] at ho3
  have kp := kp.keepNo k3; have hx := hx.keepNo k3
  have hc3 := ho3.le
  have hk := Sl.ofOwn ho3
  (conv => whnf)
  refine VLoop.by_ tt_ok (S := Nat × Option Addr × Nat) (fun | (k, Al, cl) => [(0, .slice A 8 c), (6, .slice A3 21 c3), (7, .slice Al (8 * k) cl), (8, .int .i64 ((7 * k : Nat) : Int))])
    (fun | (k, Al, cl) => fun w' => k ≤ 3 ∧ Own w' w3.heap.size T8 1 Al (8 * k) cl ((ansK h x k).map vb) ∧ Keep No w3 w') (fun | (k, _) => 3 - k)
    (0, none, 0) ⟨rfl, rfl, rfl, rfl, trivial⟩ ⟨by omega, Own.nil _ _ _ _, Keep.refl _ _⟩ ?_
  rintro ⟨k, Al, cl⟩ w' ⟨hk3, hown, kk⟩
  (conv => whnf)
  refine VCmp.mk (fun h => ?_) (fun h => ?_) <;> (conv => whnf)
  rotate_left 1
  · obtain rfl : k = 3 := by omega
    exact ⟨⟨Al, cl, rfl, hown.mono kp.size⟩, kp.trans kk⟩
  have hk' := hk.keepNo kk
  have hx' := hx.keepNo kk
  refine VRes.i64 (by omega) ?_; (conv => whnf)
  refine VCut.by_ (7 * k) (7 * k + 7) (by omega) (by omega) (by omega) (by omega) ?_
  intro A5 hA5
  have h5 := Sl.cut8 hk' (l := 7 * k) (h := 7 * k + 7) (by omega) (by omega) hc3 (A' := A5) hA5
  (conv => whnf)
  refine (encrypt_ok w' h5 hx' (by omega) (by omega)).mono ?_
  rintro v w6 ⟨hv, k6⟩
  rw [if_pos ⟨by omega, rfl⟩] at hv
  obtain ⟨q, rfl, hq6⟩ := hv
  have kk := kk.trans k6
  have hown := hown.keepNo k6
  (conv => whnf)
  refine VCmp.mk (fun h => absurd rfl h) (fun _ => ?_); (conv => whnf)
  refine appBd (w0 := w3) kk hown (Sl.ofBlk (n := 8) (size := 1) hq6 (by rw [List.length_map, desP_len'])) (by omega) ?_
  intro A7 c7 w7 ho7 k7 _
  (conv => whnf)
  refine VRes.i64 (by omega) ?_; (conv => whnf)
  exact ⟨(k + 1, A7, c7), ⟨rfl, rfl, rfl, by dsimp only; rw [show ((7 * (k + 1) : Nat) : Int) = ((7 * k : Nat) : Int) + 7 from by omega]; rfl, trivial⟩, ⟨by omega, by rw [ansK, ← hK]; exact ho7, k7⟩, by dsimp only; omega⟩
end Go.Proofs.YtoeijgbjgbgelaaDoor
