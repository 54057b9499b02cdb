/-
  DES, the program's: Encrypt.
-/
import Derived.Test.YtoeijgbjgbgelaaDoorD8
namespace Go.Proofs.YtoeijgbjgbgelaaDoor
open Go V

theorem VCut3.by_ {A : Option Addr} {c : Nat} {l h m : Int} {size : Nat} {K : Value → Prop} (l' h' m' : Nat) (e1 : (l' : Int) = l) (e2 : (h' : Int) = h) (e3 : (m' : Int) = m) (hl : l' ≤ h') (hm : h' ≤ m') (hc : m' ≤ c)
    (hK : ∀ A', A' = (if m' = l' then A else A.map (·.add (l' * size))) → K (.slice A' (h' - l') (m' - l'))) : VCut3 A c l h m size K := ⟨⟨l', h', m', e1, e2, e3, hl, hm, hc, hK⟩⟩

/-- What an order that is a function of the program answers. -/
theorem first_ord (w : World) : OrdV w 35 [] [] 64 firstO := fun w' _ i hi => first_ok w' hi
theorem wide_ord (w : World) : OrdV w 39 [] [] 48 wideO := fun w' _ i hi => wide_ok w' hi
theorem first_range : ∀ i, i < 64 → 1 ≤ firstO i ∧ firstO i ≤ 64 := fun i h => ⟨(firstO_all i h).1, (firstO_all i h).2.1⟩

theorem encrypt_ok (w : World) {A B : Option Addr} {n m c d : Nat} {key x : List UInt8} (hs : Sl w 1 A n (key.map vb)) (hx : Sl w 1 B m (x.map vb)) (hn : n ≤ 1000) (hm : m ≤ 1000) :
    VC Tryd.prog 24 [.slice A n c, .slice B m d] w (fun v w' => (if n = 7 ∧ m = 8 then ∃ q, v = .tuple #[.slice (some ⟨q, 0, none⟩) 8 8, .int .i64 0] ∧ Blk w' q T8 ((desP key x).map vb) else v = .tuple #[.slice none 0 0, .int .i64 1]) ∧ Keep No w w') := by
  have hkl : key.length = n := by simpa using hs.len
  have hxl : x.length = m := by simpa using hx.len
  refine VC.of tt_ok Tryd.func24 rfl (by decide +kernel) (Nat.le_of_ble_eq_true rfl) ?_; (conv => whnf)
  refine VCmp.mk (fun h => ?_) (fun h => ?_) <;> (conv => whnf)
  · rw [if_neg (by omega)]
    exact ⟨rfl, Keep.refl _ _⟩
  refine VCmp.mk (fun h2 => ?_) (fun h2 => ?_) <;> (conv => whnf)
  · rw [if_neg (by omega)]
    exact ⟨rfl, Keep.refl _ _⟩
  obtain rfl : n = 7 := by omega
  obtain rfl : m = 8 := by omega
  refine (bitsOf_ok w hx (by omega)).mono ?_
  rintro v w1 ⟨⟨A1, c1, rfl, ho1⟩, kp⟩
  (conv => whnf)
  refine (put_ok w1 (fs := #[]) (cs := #[]) (Sl.ofOwn ho1) (first_ord w1) (by omega) (by omega) (fun i hi => first_range i hi)).mono ?_
  rintro v w2 ⟨⟨A2, c2, rfl, ho2⟩, hk2⟩
  have kp := kp.keepNo hk2
  have hc2 := ho2.le
  have hs2 := Sl.ofOwn ho2
  (conv => whnf)
  refine VDraw.by_ tt_ok rfl (.take 0 (.take 1 (.take 2 (.take 3 (.take 4 (.take 5 .done)))))) (by decide +kernel) _ (fun x h1 h2 h3 h4 => Keep.ofHeap h1 h2 h3 h4) (fun wd hd kd => ?_)
  have kp := kp.keepNo kd; have hs2 := hs2.keepNo kd
  (conv => whnf)
  refine VCut3.by_ 0 32 32 rfl rfl rfl (by omega) (by omega) (by omega) ?_
  intro A3 hA3
  have hL := Sl.cut8 hs2 (l := 0) (h := 32) (by omega) (by omega) hc2 (A' := A3) (by rw [hA3, if_neg (by omega), if_neg (by omega)]; rfl)
  have hL : Sl wd 1 A3 (32 - 0) ((roundsP key x 0).1.map vb) := hL
  (conv => whnf)
  refine VReq.mk hc2 ?_
  refine VCut.by_ 32 64 rfl rfl (by omega) hc2 ?_
  intro A4 hA4
  have hR := Sl.cut8 hs2 (l := 32) (h := 64) (by omega) (by omega) hc2 (A' := A4) hA4
  rw [show (putP (bitsP x) firstO 64).take 64 = putP (bitsP x) firstO 64 from List.take_of_length_le (by rw [putP_len]; omega)] at hR
  have hR : Sl wd 1 A4 (64 - 32) ((roundsP key x 0).2.map vb) := hR
  (conv => whnf)
  refine (keys_ok wd (hs.keepNo kp)).mono ?_
  rintro v w3 ⟨⟨A5, c5, vals, rfl, ho5, hels⟩, hk3⟩
  have kp := kp.keepNo hk3; have hL := hL.keepNo hk3; have hR := hR.keepNo hk3
  have hs5 := Sl.ofOwn ho5
  (conv => whnf)
  refine VLoop.by_ tt_ok (S := Nat × (Option Addr × Nat) × Option Addr × Nat) (fun | (k, (Al, cl), Ah, ch) => [(7, .slice Al 32 cl), (8, .slice Ah 32 ch), (31, .slice A5 16 c5), (32, .int .i64 16), (33, .int .i64 k)])
    (fun | (k, (Al, cl), Ah, ch) => fun w' => k ≤ 16 ∧ Sl w' 1 Al 32 ((roundsP key x k).1.map vb) ∧ Sl w' 1 Ah 32 ((roundsP key x k).2.map vb) ∧ 32 ≤ ch ∧ Keep No w3 w') (fun | (k, _) => 16 - k)
    (0, (A3, 32), A4, c2 - 32) ⟨rfl, rfl, rfl, rfl, rfl, trivial⟩ ⟨by omega, hL, hR, by omega, Keep.refl _ _⟩ ?_
  rintro ⟨k, ⟨Al, cl⟩, Ah, ch⟩ w' ⟨hk, hl, hh, hch, kk⟩
  (conv => whnf)
  refine VCmp.mk (fun h => ?_) (fun h => ?_) <;> (conv => whnf)
  rotate_left 1
  · obtain rfl : k = 16 := by omega
    have kp := kp.trans kk
    refine appBd (w0 := w') (xs := []) (n := 0) (Keep.refl _ _) (Own.nil _ _ _ _) hh (by omega) ?_
    intro A6 c6 w4 ho6 hk6 _
    have hl := hl.keepNo hk6
    (conv => whnf)
    refine appBd (w0 := w') (xs := [] ++ (roundsP key x 16).2) (n := 0 + 32) hk6 ho6 hl (by omega) ?_
    intro A7 c7 w5 ho7 hk7 _
    have kp := kp.trans hk7
    obtain ⟨both, hbo⟩ : ∃ both, both = (roundsP key x 16).2 ++ (roundsP key x 16).1 := ⟨_, rfl⟩
    have hsb : Sl w5 1 A7 (0 + 32 + 32) (both.map vb) := by rw [hbo]; exact Sl.ofOwn ho7
    (conv => whnf)
    refine VMake.row_ (n := 64) (z := vb 0) (bytes := 1) Tryd.underlying23 (by kernel_rfl) rfl (by omega) (by omega) ?_
    intro w6 hq hk8
    have hq : Blk w6 w5.heap.size T8 ((backK both 0).map vb) := by rw [backK, List.map_replicate]; exact hq
    (conv => whnf)
    refine VLoop.by_ tt_ok (S := Nat) (fun j => [(12, .slice A7 64 c7), (13, .slice (some ⟨w5.heap.size, 0, none⟩) 64 64), (55, .int .i64 64), (56, .int .i64 j)])
      (fun j w' => j ≤ 64 ∧ Blk w' w5.heap.size T8 ((backK both j).map vb) ∧ Keep No w5 w') (fun j => 64 - j) 0
      ⟨rfl, rfl, rfl, rfl, trivial⟩ ⟨by omega, hq, hk8⟩ ?_
    rintro j wj ⟨hj, hq, kj⟩
    have hbkl : ∀ j, (backK both j).length = 64 := fun j => by
      induction j with
      | zero => simp [backK]
      | succ j ih => rw [backK, List.length_set, ih]
    have hlt := Blk.lt hq
    (conv => whnf)
    refine VCmp.mk (fun h => ?_) (fun h => ?_) <;> (conv => whnf)
    rotate_left 1
    · obtain rfl : j = 64 := by omega
      refine (bytesOf_ok wj (Sl.ofBlk (n := 64) (size := 1) hq (by rw [List.length_map, hbkl])) (by omega) rfl).mono ?_
      rintro v w7 ⟨⟨q, rfl, hb7, _⟩, hk9⟩
      (conv => whnf)
      rw [if_pos ⟨rfl, rfl⟩]
      exact ⟨⟨q, rfl, by unfold desP; rw [← hbo]; exact hb7⟩, (kp.trans kj).trans hk9⟩
    have hsb' := hsb.keepNo kj
    have hfr := first_range j (by omega)
    refine VDraw.by_ tt_ok rfl (.take 0 (.take 1 (.take 4 (.take 5 (.take 6 (.take 7 (.one 2 (.take 3 (.take 8 (.one 9 .done)))))))))) (by decide +kernel) _ (fun x h1 h2 h3 h4 => Keep.ofHeap h1 h2 h3 h4) (fun wd hd kd => ?_)
    have kj := kj.trans kd
    have hq := hq.keepNo kd
    (conv => whnf)
    refine VIdx.sl hsb' j rfl (by omega) (fun b_ o_ hA_ hc_ => ?_)
    (conv => whnf)
    refine VLoad.keep hc_ ?_
    (conv => whnf)
    refine (first_ok wd (by omega)).mono ?_
    rintro v w7 ⟨rfl, hk9⟩
    have kj := kj.trans hk9
    have hq := hq.keepNo hk9
    (conv => whnf)
    refine VOwe.same (kd.keepNo hk9) ?_
    (conv => whnf)
    refine VRes.i64 (by omega) ?_; (conv => whnf)
    refine VIdx.one (firstO j - 1) (by omega) (by omega) rfl ?_
    (conv => whnf)
    refine VStore.one hq (by rw [List.length_map, hbkl]; omega) ?_
    intro w8 hq8 hk10 hk10_sz
    have kj := kj.fresh_ hk10 (Nat.le_refl _)
    (conv => whnf)
    refine VOwe.to (fun _ => True) (fun h => absurd h (by decide +kernel)) trivial ?_; (conv => whnf)
    refine VRes.i64 (by omega) ?_; (conv => whnf)
    exact ⟨j + 1, ⟨rfl, rfl, rfl, rfl, trivial⟩, ⟨by omega, by rw [backK, List.map_set]; simpa using hq8, kj⟩, by omega⟩
  obtain ⟨b, o, hA, hcl⟩ := hs5.at_ (by omega)
  have hkk : (keysP key 16)[k]? = some (keyP key (k + 1)) := by unfold keysP; rw [List.getElem?_map, List.getElem?_range (by omega)]; rfl
  obtain ⟨vx, hvx, Ax, cx, rfl, hcx, hsx, _⟩ := hels.2 k _ hkk
  have hkl2 : (keyP key (k + 1)).length = 48 := by unfold keyP; exact putP_len _ _ _
  rw [hkl2] at hcx hsx hvx
  refine VIdx.one k rfl (by omega) hA ?_
  (conv => whnf)
  refine VLoad.by_ (kk.cell (hcl k _ hvx) id) ?_
  (conv => whnf)
  refine (put_ok w' (fs := #[]) (cs := #[]) hh (wide_ord w') (by omega) (by omega) (fun i hi => wide_range i hi)).mono ?_
  rintro v w4 ⟨⟨A6, c6, rfl, ho6⟩, hk4⟩
  have kk := kk.keepNo hk4; have hl := hl.keepNo hk4; have hh := hh.keepNo hk4
  (conv => whnf)
  refine (desXor_ok w4 (Sl.ofOwn ho6) (hsx.keepNo kk) (by omega) (by omega)).mono ?_
  rintro v w5 ⟨⟨q5, rfl, hb5, _⟩, hk5⟩
  have kk := kk.keepNo hk5; have hl := hl.keepNo hk5; have hh := hh.keepNo hk5
  (conv => whnf)
  refine (boxed_ok w5 (Sl.ofBlk (n := 48) (size := 1) hb5 (by rw [List.length_map, xorP_len])) (by omega) (xorP_bit (putP_bit (rounds_bit key x k).2 _ _) (keyP_bit _ _) _)).mono ?_
  rintro v w6 ⟨⟨A7, c7, rfl, ho7⟩, hk6⟩
  have kk := kk.keepNo hk6; have hl := hl.keepNo hk6; have hh := hh.keepNo hk6
  (conv => whnf)
  refine (mixed_ok w6).mono ?_
  rintro v w7 ⟨⟨cs, rfl, hord⟩, hk7⟩
  have kk := kk.keepNo hk7; have hl := hl.keepNo hk7; have hh := hh.keepNo hk7; have ho7 := ho7.keepNo hk7
  (conv => whnf)
  refine (put_ok w7 (Sl.ofOwn ho7) hord (by omega) (by omega) (fun i hi => mixed_range i hi)).mono ?_
  rintro v w8 ⟨⟨A8, c8, rfl, ho8⟩, hk8⟩
  have kk := kk.keepNo hk8; have hl := hl.keepNo hk8; have hh := hh.keepNo hk8
  (conv => whnf)
  refine (desXor_ok w8 hl (Sl.ofOwn ho8) (by omega) (by omega)).mono ?_
  rintro v w9 ⟨⟨q9, rfl, hb9, _⟩, hk9⟩
  have kk := kk.keepNo hk9; have hh := hh.keepNo hk9
  (conv => whnf)
  refine VRes.i64 (by omega) ?_; (conv => whnf)
  exact ⟨(k + 1, (Ah, ch), some ⟨q9, 0, none⟩, 32), ⟨rfl, rfl, rfl, rfl, rfl, trivial⟩, ⟨by omega, hh, Sl.ofBlk (n := 32) (size := 1) hb9 (by rw [List.length_map]; exact xorP_len _ _ _), by omega, kk⟩, by dsimp only; omega⟩
end Go.Proofs.YtoeijgbjgbgelaaDoor
