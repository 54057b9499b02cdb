/-
  The statements' own helpers for package stuff: Frames, awake.
-/
import Derived.Test.YtgjengcmopgngaaSt4
namespace Go.Proofs.Ytgjengcmopgngaa
open Go V

theorem frames_ok (w : World) {A : Option Addr} {n c : Nat} {va : List Value} {fs : List (List UInt8)} {X : Nat → Prop} {B : Option Addr} {m d : Nat} {vg : List Value} {gs : List (List UInt8)} {Y : Nat → Prop}
    (ha : Sl w 1 A n va) (hea : Els w X va fs) (hb : Sl w 1 B m vg) (heb : Els w Y vg gs) (hn : n ≤ 140737488355328) (hfs : ∀ f ∈ fs, f.length ≤ 140737488355328) :
    VC Try.prog 16 [.slice A n c, .slice B m d] w (fun v w' => v = .bool (decide (fs = gs)) ∧ Keep No w w') := by
  have hl : fs.length = n := by rw [← hea.1]; exact ha.len
  have hr : gs.length = m := by rw [← heb.1]; exact hb.len
  refine VC.of tt_ok Try.func16 rfl (by decide +kernel) (Nat.le_of_ble_eq_true rfl) ?_; (conv => whnf)
  refine VCmp.mk (fun h => ?_) (fun h => ?_) <;> (conv => whnf)
  · exact ⟨congrArg Value.bool (decide_eq_false (fun e => by subst e; omega)).symm, Keep.refl _ _⟩
  · have hnm : n = m := by omega
    subst hnm
    refine VLoop.by_ tt_ok (S := Nat) (fun k => [(0, .slice A n c), (1, .slice B n d), (5, .int .i64 k)]) (fun k w' => k ≤ n ∧ fs.take k = gs.take k ∧ Keep No w w') (fun k => n - k) 0
      ⟨rfl, rfl, rfl, trivial⟩ ⟨by omega, by simp, Keep.refl _ _⟩ ?_
    rintro k w' ⟨hk, ht, hkeep⟩
    (conv => whnf)
    refine VCmp.mk (fun h => ?_) (fun h => ?_) <;> (conv => whnf)
    · obtain ⟨x, hx⟩ : ∃ x, fs[k]? = some x := ⟨_, List.getElem?_eq_getElem (by omega)⟩
      obtain ⟨y, hy⟩ : ∃ y, gs[k]? = some y := ⟨_, List.getElem?_eq_getElem (by omega)⟩
      obtain ⟨b1, o1, hA, hc1⟩ := (ha.keepNo hkeep).at_ (by omega)
      obtain ⟨b2, o2, hB, hc2⟩ := (hb.keepNo hkeep).at_ (by omega)
      obtain ⟨vx, hvx, A1, c1, rfl, _, hs1, _⟩ := hea.2 k x hx
      obtain ⟨vy, hvy, A2, c2, rfl, _, hs2, _⟩ := heb.2 k y hy
      refine VDraw.by_ tt_ok rfl (.take 0 (.take 1 (.take 2 (.take 3 (.take 4 (.take 5 (.take 6 (.take 7 (.one 8 (.take 9 .done)))))))))) (by decide +kernel) _ (fun x h1 h2 h3 h4 => Keep.ofHeap h1 h2 h3 h4) (fun wd hd kd => ?_)
      (conv => whnf)
      refine VIdx.one k rfl (by omega) hA ?_
      (conv => whnf)
      refine VLoad.keep (hc1 k _ hvx) ?_
      (conv => whnf)
      refine VIdx.one k rfl (by omega) hB ?_
      (conv => whnf)
      refine VLoad.keep (hc2 k _ hvy) ?_
      (conv => whnf)
      refine (same_ok _ (hs1.keepNo (hkeep.trans kd)) (hs2.keepNo (hkeep.trans kd)) (hfs x (List.mem_of_getElem? hx))).mono ?_
      rintro v w2 ⟨rfl, hk2⟩
      refine VOwe.same (kd.trans hk2) ?_
      by_cases hxy : x = y
      · rw [decide_eq_true hxy]
        (conv => whnf)
        refine VRes.i64 (by omega) ?_
        (conv => whnf)
        exact ⟨k + 1, ⟨rfl, rfl, rfl, trivial⟩, ⟨by omega, by rw [List.take_add_one, List.take_add_one, ht, hx, hy, hxy], (hkeep.trans kd).trans hk2⟩, by omega⟩
      · rw [decide_eq_false hxy]
        (conv => whnf)
        refine ⟨congrArg Value.bool (decide_eq_false (fun e => ?_)).symm, (hkeep.trans kd).trans hk2⟩
        subst e
        rw [hx] at hy
        cases hy
        exact hxy rfl
    · refine ⟨congrArg Value.bool (decide_eq_true ?_).symm, hkeep⟩
      rw [List.take_of_length_le (by omega), List.take_of_length_le (by omega)] at ht
      exact ht

theorem awake_ok (w : World) : VC Try.prog 10 [] w (fun v w' => v = .bool true ∧ Keep No w w') := by
  refine VC.of tt_ok Try.func10 rfl (by decide +kernel) (Nat.le_of_ble_eq_true rfl) ?_; (conv => whnf)
  refine (new_ok _ 0#32 100 (by omega)).mono ?_
  rintro v w1 (⟨h, _⟩ | ⟨m, hm, h1, h2, rfl, hdf, hk1⟩)
  · omega
  obtain rfl : m = 100 := by omega
  (conv => whnf)
  (repeat' (first  | (refine VCmp.mk (fun h => ?_) (fun h => ?_) <;> first | (exfalso; omega) | (conv => whnf))  | (refine VRes.i64 (by omega) ?_; conv => whnf)  | (refine VReq.mk (by omega) ?_; conv => whnf)))
  refine VFill.by_ rfl ?_
  (conv => whnf)
  refine ⟨fun w2 hb2 hk2 => ?_⟩
  (conv => whnf)
  refine (stuff_ok _ _ 3 3 [0x7e, 5, 0x41] 32#32 (Sl.ofBlk (n := 3) (size := 1) (xs := ([0x7e, 5, 0x41] : List UInt8).map vb) hb2 rfl) (by omega)).mono ?_
  rintro v w3 ⟨A3, n3, c3, rfl, ho3, hk3⟩
  have hn3 : n3 = 7 := by
    have := (Sl.ofOwn ho3).len
    rw [List.length_map] at this
    rw [← this]; decide
  subst hn3
  have hdf3 := (hdf.keepNo hk2).keepNo hk3
  have hs1 := hk1.size
  have hs2 := hk2.size
  refine (feed_ok (D := 0) _ hdf3 ⟨by decide, by decide, by decide, by decide⟩ (Sl.ofOwn ho3) ?_ (fun a ha => (ho3.base_ ha).2) (by omega) (by omega)).mono ?_
  · rintro a ha (h | ⟨_, h, _⟩)
    · have := (ho3.base_ ha).1
      have := (hdf.lt _ (.inl rfl))
      omega
    · cases h
  rintro v w4 ⟨A4, Ao, no, co, vals, rfl, hst⟩
  have hfs : (Df.feed ⟨0#32, 100, [], false, false, 0⟩ (stuffed 32#32 [0x7e, 5, 0x41])).2 = [[0x7e, 5, 0x41]] := by decide
  have hno := hst.no_len
  have hels := hst.els
  rw [hfs] at hno hels
  obtain rfl : no = 1 := hno
  obtain ⟨vx, hvx, A1, c1, rfl, _, hs1', _⟩ := hels.2 0 [0x7e, 5, 0x41] rfl
  (conv => whnf)
  refine VCmp.mk (fun h => ?_) (fun h => ?_) <;> first | (exfalso; exact h rfl) | (conv => whnf)
  obtain ⟨b, o, hA, hc⟩ := (Sl.ofOwn hst.out).at_ (by omega)
  refine VIdx.one 0 rfl (by omega) hA ?_
  (conv => whnf)
  refine VLoad.by_ (hc 0 _ hvx) ?_
  (conv => whnf)
  refine VFill.by_ rfl ?_
  (conv => whnf)
  refine ⟨fun w5 hb5 hk5 => ?_⟩
  (conv => whnf)
  refine (same_ok _ (hs1'.keepNo hk5) (Sl.ofBlk (n := 3) (size := 1) (xs := ([0x7e, 5, 0x41] : List UInt8).map vb) hb5 rfl) (by decide)).mono ?_
  rintro v w6 ⟨rfl, hk6⟩
  (conv => whnf)
  refine ⟨rfl, ?_⟩
  have k3 : Keep No w w3 := (hk1.trans hk2).trans hk3
  have k4 : Keep No w w4 := k3.toNo hst.keep (by rintro i (h | ⟨_, h, _⟩) <;> first | omega | cases h)
  exact (k4.trans hk5).trans hk6
end Go.Proofs.Ytgjengcmopgngaa
