/-
  The reference's Same and Copy.
-/
import Derived.Test.YtgmopcbfgcagaaaDoorVb
namespace Go.Proofs.YtgmopcbfgcagaaaDoor
open Go V

theorem same_ok (w : World) {A : Option Addr} {n c : Nat} {l : List UInt8} {B : Option Addr} {m d : Nat} {r : List UInt8} (ha : Sl w 1 A n (l.map vb)) (hb : Sl w 1 B m (r.map vb)) (hn : n ≤ 140737488355328) :
    VC Tryd.prog 10 [.slice A n c, .slice B m d] w (fun v w' => v = .bool (decide (l = r)) ∧ Keep No w w') := by
  have hl : l.length = n := by simpa using ha.len
  have hr : r.length = m := by simpa using hb.len
  refine VC.of tt_ok Tryd.func10 rfl (by decide +kernel) (Nat.le_of_ble_eq_true rfl) ?_; (conv => whnf)
  refine VCmp.mk (fun h => ?_) (fun h => ?_) <;> (conv => whnf)
  · exact ⟨congrArg Value.bool (decide_eq_false (fun e => by subst e; omega)).symm, Keep.refl _ _⟩
  · have hnm : n = m := by omega
    subst hnm
    refine VLoop.by_ tt_ok (S := Nat) (fun k => [(0, .slice A n c), (1, .slice B n d), (5, .int .i64 k)]) (fun k w' => k ≤ n ∧ l.take k = r.take k ∧ Keep No w w') (fun k => n - k) 0
      ⟨rfl, rfl, rfl, trivial⟩ ⟨by omega, by simp, Keep.refl _ _⟩ ?_
    rintro k w' ⟨hk, ht, hkeep⟩
    (conv => whnf)
    refine VCmp.mk (fun h => ?_) (fun h => ?_) <;> (conv => whnf)
    · obtain ⟨x, hx⟩ : ∃ x, l[k]? = some x := ⟨_, List.getElem?_eq_getElem (by omega)⟩
      obtain ⟨y, hy⟩ : ∃ y, r[k]? = some y := ⟨_, List.getElem?_eq_getElem (by omega)⟩
      refine VDraw.by_ tt_ok rfl (.take 0 (.take 1 (.take 2 (.take 3 (.take 4 (.take 5 (.take 6 (.take 7 (.take 8 .done))))))))) (by decide +kernel) _ (fun x h1 h2 h3 h4 => Keep.ofHeap h1 h2 h3 h4) (fun wd hd kd => ?_)
      have hkd := hkeep.trans kd
      obtain ⟨b1, o1, hA, hc1⟩ := (ha.keepNo hkd).at_ (by omega)
      obtain ⟨b2, o2, hB, hc2⟩ := (hb.keepNo hkd).at_ (by omega)
      (conv => whnf)
      refine VIdx.one k rfl (by omega) hA ?_
      (conv => whnf)
      refine VLoad.by_ (v := vb x) (fun z hz => ((ha.keepNo (hkeep.trans hz)).at_ (by omega)).elim fun b ⟨o, h1, h2⟩ => by rw [hA] at h1; cases h1; exact h2 k _ (by simp [hx])) ?_
      (conv => whnf)
      refine VIdx.one k rfl (by omega) hB ?_
      (conv => whnf)
      refine VLoad.by_ (v := vb y) (fun z hz => ((hb.keepNo (hkeep.trans hz)).at_ (by omega)).elim fun b ⟨o, h1, h2⟩ => by rw [hB] at h1; cases h1; exact h2 k _ (by simp [hy])) ?_
      (conv => whnf)
      refine VCmp.mk (fun h2 => ?_) (fun h2 => ?_) <;> (conv => whnf)
      · refine ⟨congrArg Value.bool (decide_eq_false (fun e => ?_)).symm, hkd⟩
        subst e
        rw [hx] at hy
        cases hy
        exact h2 rfl
      · refine VRes.i64 (by omega) ?_
        (conv => whnf)
        have hxy : x = y := UInt8.toNat_inj.1 (by omega)
        exact ⟨k + 1, ⟨rfl, rfl, rfl, trivial⟩, ⟨by omega, by rw [List.take_add_one, List.take_add_one, ht, hx, hy, hxy], hkd⟩, by omega⟩
    · refine ⟨congrArg Value.bool (decide_eq_true ?_).symm, hkeep⟩
      rw [List.take_of_length_le (by omega), List.take_of_length_le (by omega)] at ht
      exact ht

theorem copy_ok (w : World) {A : Option Addr} {n c : Nat} {l : List UInt8} (ha : Sl w 1 A n (l.map vb)) (hn : n ≤ 140737488355328) :
    VC Tryd.prog 11 [.slice A n c] w (fun v w' => ∃ A' c', v = .slice A' n c' ∧ Own w' w.heap.size T8 1 A' n c' (l.map vb) ∧ Keep No w w') := by
  have hl : l.length = n := by simpa using ha.len
  refine VC.of tt_ok Tryd.func11 rfl (by decide +kernel) (Nat.le_of_ble_eq_true rfl) ?_; (conv => whnf)
  refine VLoop.by_ tt_ok (S := Nat × Option Addr × Nat) (fun | (k, A', c') => [(0, .slice A n c), (3, .slice A' k c'), (4, .int .i64 k)])
    (fun | (k, A', c') => fun w' => k ≤ n ∧ Own w' w.heap.size T8 1 A' k c' ((l.take k).map vb) ∧ Keep No w w') (fun | (k, _, _) => n - k) (0, none, 0)
    ⟨rfl, rfl, rfl, trivial⟩ ⟨by omega, Own.nil _ _ _ _, Keep.refl _ _⟩ ?_
  rintro ⟨k, A', c'⟩ w' ⟨hk, hown, hkeep⟩
  (conv => whnf)
  refine VCmp.mk (fun h => ?_) (fun h => ?_) <;> (conv => whnf)
  · obtain ⟨x, hx⟩ : ∃ x, l[k]? = some x := ⟨_, List.getElem?_eq_getElem (by omega)⟩
    obtain ⟨b, o, hA, hc⟩ := (ha.keepNo hkeep).at_ (by omega)
    refine VIdx.one k rfl (by omega) hA ?_
    (conv => whnf)
    refine VLoad.by_ (hc k (vb x) (by simp [hx])) ?_
    (conv => whnf)
    refine VFill.by_ rfl ?_
    (conv => whnf)
    refine ⟨fun w2 hb2 hk2 => ?_⟩
    (conv => whnf)
    refine app8one (x := x) (hkeep.trans hk2) (hown.keepNo hk2) hb2 rfl (by omega) ?_
    intro A3 c3 w3 ho3 hk3 _ _
    (conv => whnf)
    refine VRes.i64 (by omega) ?_
    (conv => whnf)
    exact ⟨(k + 1, A3, c3), ⟨rfl, rfl, rfl, trivial⟩, ⟨by omega, by rw [List.take_add_one, hx]; exact ho3, hk3⟩, by dsimp only; omega⟩
  · have hkn : k = n := by omega
    subst hkn
    rw [List.take_of_length_le (by omega)] at hown
    exact ⟨A', c', rfl, hown, hkeep⟩
end Go.Proofs.YtgmopcbfgcagaaaDoor
