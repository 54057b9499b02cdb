/-
  Gate: same rows are found the same.
-/
import Derived.Test.YtpofkhjkdkkajaaDoorG4
namespace Go.Proofs.YtpofkhjkdkkajaaDoor
open Go V
open Pk (decodeP splitP PkV OpsN Ops)

theorem splitF_len32 : ∀ (f : Nat) (l : List UInt8) (acc : List Pk.Opt), acc.length ≤ 32 → (Pk.splitF f l acc).1.length ≤ 32
  | 0, l, acc, h => h
  | f + 1, l, acc, h => by
    unfold Pk.splitF
    split
    · exact h
    · split
      · simp
      · split
        · simp
        · refine splitF_len32 f _ _ ?_
          rw [List.length_append]
          simp only [List.length_cons, List.length_nil]
          omega
theorem kinds_len (p : Int) (l : List UInt8) : (kindsP p l).length ≤ 1000000 := by
  have := splitF_len32 (decodeP l).1.data.length (decodeP l).1.data [] (by simp)
  unfold kindsP
  split
  · rw [List.length_map]
    exact Nat.le_trans this (by decide)
  · simp
theorem look_kinds (fs : List (List UInt8)) : ∀ s ∈ snsOf fs, s.kinds.length ≤ 1000000 := by
  intro s hs
  obtain ⟨f, _, hf⟩ := List.mem_flatMap.1 hs
  unfold snOf at hf
  split at hf
  · obtain rfl := List.mem_singleton.1 hf
    exact kinds_len _ _
  · simp at hf

theorem same26_ok (w : World) {X Y : Nat → Prop} {A B : Option Addr} {n c m d : Nat} {cells cells2 : List Value} {ss : List Sn} (hs : Sl w 5 A n cells) (ho : Sns w X cells ss) (hs2 : Sl w 5 B m cells2) (ho2 : Sns w Y cells2 ss) (hn : n ≤ 1000000) (hks : ∀ s ∈ ss, s.kinds.length ≤ 1000000) :
    VC Tryd.prog 13 [.slice A n c, .slice B m d] w (fun v w' => v = .bool true ∧ Keep No w w') := by
  have hl := ho.len hs
  have hl2 := ho2.len hs2
  obtain rfl : m = n := by omega
  refine VC.of tt_ok Tryd.func13 rfl (by decide +kernel) (Nat.le_of_ble_eq_true rfl) ?_; (conv => whnf)
  refine VCmp.mk (fun h => absurd rfl h) (fun _ => ?_); (conv => whnf)
  refine VLoop.by_ tt_ok (S := Nat) (fun k => [(0, .slice A m c), (1, .slice B m d), (5, .int .i64 k)]) (fun k w' => k ≤ m ∧ Keep No w w') (fun k => m - k) 0
    ⟨rfl, rfl, rfl, trivial⟩ ⟨by omega, Keep.refl _ _⟩ ?_
  rintro k w' ⟨hk, kp⟩
  (conv => whnf)
  refine VCmp.mk (fun h => ?_) (fun h => ?_) <;> (conv => whnf)
  rotate_left 1
  · exact ⟨rfl, kp⟩
  obtain ⟨x, hx⟩ : ∃ x, ss[k]? = some x := ⟨_, List.getElem?_eq_getElem (by omega)⟩
  have hkx := hks x (List.mem_of_getElem? hx)
  obtain ⟨b, o, A1, c1, hA, hkn, e0, e1, e2, e3, e4, s1⟩ := ho.at_ hs hx
  obtain ⟨b', o', A2, c2, hB, _, g0, g1, g2, g3, g4, s2⟩ := ho2.at_ hs2 hx
  have e0 := kp.cell e0 id
  have e1 := kp.cell e1 id
  have e2 := kp.cell e2 id
  have e3 := kp.cell e3 id
  have e4 := kp.cell e4 id
  have g0 := kp.cell g0 id
  have g1 := kp.cell g1 id
  have g2 := kp.cell g2 id
  have g3 := kp.cell g3 id
  have g4 := kp.cell g4 id
  refine VDraw.by_ tt_ok rfl (.take 0 (.take 1 (.take 2 (.take 3 (.take 4 (.take 5 (.take 6 (.take 7 (.two 8 (.one 9 (.one 10 (.one 11 .done))) 9 (.one 8 (.one 10 (.one 11 .done)))))))))))) (by decide +kernel) _ (fun x h1 h2 h3 h4 => Keep.ofHeap h1 h2 h3 h4) (fun wd hd kd => ?_)
  have kp := kp.keepNo kd
  have hsz := kp.size
  have hsz' := kd.size
  (conv => whnf)
  refine VIdx.mul k rfl hkn hA ?_
  (conv => whnf)
  refine VLoads.five (fun x hx => hx.cell e0 id) (fun x hx => hx.cell e1 id) (fun x hx => hx.cell e2 id) (fun x hx => hx.cell e3 id) (fun x hx => hx.cell e4 id) ?_
  (conv => whnf)
  refine VIdx.mul k rfl hkn hB ?_
  (conv => whnf)
  refine VLoads.five (fun x hx => hx.cell g0 id) (fun x hx => hx.cell g1 id) (fun x hx => hx.cell g2 id) (fun x hx => hx.cell g3 id) (fun x hx => hx.cell g4 id) ?_
  (conv => whnf)
  refine ⟨?_, ?_⟩
  · refine ⟨fun w1 hb6 hk1 => ?_⟩; have hb6_lt := Blk.lt hb6; have hk1_sz := hk1.size; (conv => whnf)
    have kd := kd.keepNo hk1; have kp := kp.keepNo hk1
    refine VOwe.same kd ?_
    (conv => whnf)
    refine ⟨fun w2 hb7 hk2 => ?_⟩; have hb7_lt := Blk.lt hb7; have hk2_sz := hk2.size; (conv => whnf)
    have kd := kd.keepNo hk2; have kp := kp.keepNo hk2; have hb6 := hb6.keepNo hk2
    refine VOwe.same kd ?_
    (conv => whnf)
    (refine VReq.mk ⟨rfl, (fun u hu => List.all_eq_true.mp (show List.all _ (fun u => u.oneCell') = true by rfl) u hu)⟩ ?_; (conv => whnf))
    refine VStore.all hb6 rfl ?_
    intro w3 hb6 hk3 hk3_sz
    have hb7 := hb7.keep hk3 (by omega)
    have kp := kp.fresh_ hk3 (by omega)
    have kd := kd.fresh_ hk3 (by omega)
    (conv => whnf)
    refine VOwe.same kd ?_
    (conv => whnf)
    (refine VReq.mk ⟨rfl, (fun u hu => List.all_eq_true.mp (show List.all _ (fun u => u.oneCell') = true by rfl) u hu)⟩ ?_; (conv => whnf))
    refine VStore.all hb7 rfl ?_
    intro w4 hb7 hk4 hk4_sz
    have hb6 := hb6.keep hk4 (by omega)
    have kp := kp.fresh_ hk4 (by omega)
    (conv => whnf)
    refine VOwe.to (fun _ => True) (fun h => absurd h (by decide +kernel)) trivial ?_; (conv => whnf)
    refine VLoad.by_ ((hb6).cell 0) ?_; (conv => whnf)
    refine VLoad.by_ ((hb7).cell 0) ?_; (conv => whnf)
    refine VCmp.mk (fun h => absurd rfl h) (fun _ => ?_); (conv => whnf)
    refine VLoad.by_ ((hb6).cell 1) ?_; (conv => whnf)
    refine VLoad.by_ ((hb7).cell 1) ?_; (conv => whnf)
    refine VCmp.mk (fun h => absurd rfl h) (fun _ => ?_); (conv => whnf)
    refine VLoad.by_ ((hb6).cell 3) ?_; (conv => whnf)
    refine VLoad.by_ ((hb7).cell 3) ?_; (conv => whnf)
    refine VCmp.mk (fun h => absurd rfl h) (fun _ => ?_); (conv => whnf)
    refine VLoad.by_ ((hb6).cell 4) ?_; (conv => whnf)
    refine VLoad.by_ ((hb7).cell 4) ?_; (conv => whnf)
    rw [show (!(x.enc == x.enc)) = false from by simp]
    (conv => whnf)
    refine VLoad.by_ ((hb6).cell 2) ?_; (conv => whnf)
    refine VLoad.by_ ((hb7).cell 2) ?_; (conv => whnf)
    refine VCmp.mk (fun h => absurd rfl h) (fun _ => ?_); (conv => whnf)
    refine VLoop.by_ tt_ok (S := Nat) (fun j => [(0, .slice A m c), (1, .slice B m d), (5, .int .i64 k), (6, .pointer (some ⟨wd.heap.size, 0, none⟩)), (7, .pointer (some ⟨w1.heap.size, 0, none⟩)), (8, .int .i64 j)]) (fun j w' => j ≤ x.kinds.length ∧ Keep No w4 w') (fun j => x.kinds.length - j) 0
      ⟨rfl, rfl, rfl, rfl, rfl, rfl, trivial⟩ ⟨by omega, Keep.refl _ _⟩ ?_
    rintro j wj ⟨hj, kj⟩
    have kp := kp.trans kj
    have s1 := s1.keepNo kp
    have s2 := s2.keepNo kp
    have hb6 := hb6.keepNo kj
    have hb7 := hb7.keepNo kj
    (conv => whnf)
    refine VLoad.by_ ((hb6).cell 2) ?_; (conv => whnf)
    refine VCmp.mk (fun h => ?_) (fun h => ?_) <;> (conv => whnf)
    rotate_left 1
    · refine VRes.i64 (by omega) ?_; (conv => whnf)
      exact ⟨k + 1, ⟨rfl, rfl, rfl, trivial⟩, ⟨by omega, kp⟩, by omega⟩
    obtain ⟨ba, oa, hA1, hca⟩ := s1.at_ (by omega)
    obtain ⟨bb, ob, hA2, hcb⟩ := s2.at_ (by omega)
    obtain ⟨y, hy⟩ : ∃ y, x.kinds[j]? = some y := ⟨_, List.getElem?_eq_getElem (by omega)⟩
    have hy1 : (x.kinds.map iv)[j]? = some (iv y) := by rw [List.getElem?_map, hy]; rfl
    refine VDraw.by_ tt_ok rfl (.take 0 (.take 1 (.take 2 (.take 3 (.take 4 (.take 5 (.take 6 (.take 7 (.take 8 (.take 9 (.take 10 .done))))))))))) (by decide +kernel) _ (fun x h1 h2 h3 h4 => Keep.ofHeap h1 h2 h3 h4) (fun wd hd kd => ?_)
    (conv => whnf)
    refine VLoad.keep (hb6.cell 2) ?_
    (conv => whnf)
    refine VIdx.one j rfl (by omega) hA1 ?_
    (conv => whnf)
    refine VLoad.keep (hca _ _ hy1) ?_
    (conv => whnf)
    refine VLoad.keep (hb7.cell 2) ?_
    (conv => whnf)
    refine VIdx.one j rfl (by omega) hA2 ?_
    (conv => whnf)
    refine VLoad.keep (hcb _ _ hy1) ?_
    (conv => whnf)
    refine VCmp.mk (fun h => absurd rfl h) (fun _ => ?_); (conv => whnf)
    refine VRes.i64 (by omega) ?_; (conv => whnf)
    exact ⟨j + 1, ⟨rfl, rfl, rfl, rfl, rfl, rfl, trivial⟩, ⟨by omega, kj.trans kd⟩, by omega⟩
  · refine ⟨fun w1 hb7 hk1 => ?_⟩; have hb7_lt := Blk.lt hb7; have hk1_sz := hk1.size; (conv => whnf)
    have kd := kd.keepNo hk1; have kp := kp.keepNo hk1
    refine VOwe.same kd ?_
    (conv => whnf)
    refine ⟨fun w2 hb6 hk2 => ?_⟩; have hb6_lt := Blk.lt hb6; have hk2_sz := hk2.size; (conv => whnf)
    have kd := kd.keepNo hk2; have kp := kp.keepNo hk2; have hb7 := hb7.keepNo hk2
    refine VOwe.same kd ?_
    (conv => whnf)
    (refine VReq.mk ⟨rfl, (fun u hu => List.all_eq_true.mp (show List.all _ (fun u => u.oneCell') = true by rfl) u hu)⟩ ?_; (conv => whnf))
    refine VStore.all hb6 rfl ?_
    intro w3 hb6 hk3 hk3_sz
    have hb7 := hb7.keep hk3 (by omega)
    have kp := kp.fresh_ hk3 (by omega)
    have kd := kd.fresh_ hk3 (by omega)
    (conv => whnf)
    refine VOwe.same kd ?_
    (conv => whnf)
    (refine VReq.mk ⟨rfl, (fun u hu => List.all_eq_true.mp (show List.all _ (fun u => u.oneCell') = true by rfl) u hu)⟩ ?_; (conv => whnf))
    refine VStore.all hb7 rfl ?_
    intro w4 hb7 hk4 hk4_sz
    have hb6 := hb6.keep hk4 (by omega)
    have kp := kp.fresh_ hk4 (by omega)
    (conv => whnf)
    refine VOwe.to (fun _ => True) (fun h => absurd h (by decide +kernel)) trivial ?_; (conv => whnf)
    refine VLoad.by_ ((hb6).cell 0) ?_; (conv => whnf)
    refine VLoad.by_ ((hb7).cell 0) ?_; (conv => whnf)
    refine VCmp.mk (fun h => absurd rfl h) (fun _ => ?_); (conv => whnf)
    refine VLoad.by_ ((hb6).cell 1) ?_; (conv => whnf)
    refine VLoad.by_ ((hb7).cell 1) ?_; (conv => whnf)
    refine VCmp.mk (fun h => absurd rfl h) (fun _ => ?_); (conv => whnf)
    refine VLoad.by_ ((hb6).cell 3) ?_; (conv => whnf)
    refine VLoad.by_ ((hb7).cell 3) ?_; (conv => whnf)
    refine VCmp.mk (fun h => absurd rfl h) (fun _ => ?_); (conv => whnf)
    refine VLoad.by_ ((hb6).cell 4) ?_; (conv => whnf)
    refine VLoad.by_ ((hb7).cell 4) ?_; (conv => whnf)
    rw [show (!(x.enc == x.enc)) = false from by simp]
    (conv => whnf)
    refine VLoad.by_ ((hb6).cell 2) ?_; (conv => whnf)
    refine VLoad.by_ ((hb7).cell 2) ?_; (conv => whnf)
    refine VCmp.mk (fun h => absurd rfl h) (fun _ => ?_); (conv => whnf)
    refine VLoop.by_ tt_ok (S := Nat) (fun j => [(0, .slice A m c), (1, .slice B m d), (5, .int .i64 k), (6, .pointer (some ⟨w1.heap.size, 0, none⟩)), (7, .pointer (some ⟨wd.heap.size, 0, none⟩)), (8, .int .i64 j)]) (fun j w' => j ≤ x.kinds.length ∧ Keep No w4 w') (fun j => x.kinds.length - j) 0
      ⟨rfl, rfl, rfl, rfl, rfl, rfl, trivial⟩ ⟨by omega, Keep.refl _ _⟩ ?_
    rintro j wj ⟨hj, kj⟩
    have kp := kp.trans kj
    have s1 := s1.keepNo kp
    have s2 := s2.keepNo kp
    have hb6 := hb6.keepNo kj
    have hb7 := hb7.keepNo kj
    (conv => whnf)
    refine VLoad.by_ ((hb6).cell 2) ?_; (conv => whnf)
    refine VCmp.mk (fun h => ?_) (fun h => ?_) <;> (conv => whnf)
    rotate_left 1
    · refine VRes.i64 (by omega) ?_; (conv => whnf)
      exact ⟨k + 1, ⟨rfl, rfl, rfl, trivial⟩, ⟨by omega, kp⟩, by omega⟩
    obtain ⟨ba, oa, hA1, hca⟩ := s1.at_ (by omega)
    obtain ⟨bb, ob, hA2, hcb⟩ := s2.at_ (by omega)
    obtain ⟨y, hy⟩ : ∃ y, x.kinds[j]? = some y := ⟨_, List.getElem?_eq_getElem (by omega)⟩
    have hy1 : (x.kinds.map iv)[j]? = some (iv y) := by rw [List.getElem?_map, hy]; rfl
    refine VDraw.by_ tt_ok rfl (.take 0 (.take 1 (.take 2 (.take 3 (.take 4 (.take 5 (.take 6 (.take 7 (.take 8 (.take 9 (.take 10 .done))))))))))) (by decide +kernel) _ (fun x h1 h2 h3 h4 => Keep.ofHeap h1 h2 h3 h4) (fun wd hd kd => ?_)
    (conv => whnf)
    refine VLoad.keep (hb6.cell 2) ?_
    (conv => whnf)
    refine VIdx.one j rfl (by omega) hA1 ?_
    (conv => whnf)
    refine VLoad.keep (hca _ _ hy1) ?_
    (conv => whnf)
    refine VLoad.keep (hb7.cell 2) ?_
    (conv => whnf)
    refine VIdx.one j rfl (by omega) hA2 ?_
    (conv => whnf)
    refine VLoad.keep (hcb _ _ hy1) ?_
    (conv => whnf)
    refine VCmp.mk (fun h => absurd rfl h) (fun _ => ?_); (conv => whnf)
    refine VRes.i64 (by omega) ?_; (conv => whnf)
    exact ⟨j + 1, ⟨rfl, rfl, rfl, rfl, rfl, rfl, trivial⟩, ⟨by omega, kj.trans kd⟩, by omega⟩
end Go.Proofs.YtpofkhjkdkkajaaDoor
