/-
  DES, the reference's: bits, pick, half, turn, box.
-/
import Derived.Test.YtififgodhnelgaaD12
import Derived.Test.YtififgodhnelgaaB3
import Derived.Test.YtififgodhnelgaaSt0
namespace Go.Proofs.Ytififgodhnelgaa
open Go V

theorem openP_bitsP (l : List UInt8) : openP true l = bitsP l := rfl
theorem refBits_ok (w : World) {A : Option Addr} {n c : Nat} {l : List UInt8} (hs : Sl w 1 A n (l.map vb)) (hn : n ≤ 100000) :
    VC Try.prog 45 [.slice A n c] w (fun v w' => (∃ A' c', v = .slice A' (8 * n) c' ∧ Own w' w.heap.size T8 1 A' (8 * n) c' ((bitsP l).map vb)) ∧ Keep No w w') := by
  refine VC.of tt_ok Try.func45 rfl (by decide +kernel) (Nat.le_of_ble_eq_true rfl) ?_; (conv => whnf)
  refine (bitsOpen_ok w true hs hn).mono ?_
  rintro v w1 ⟨⟨A1, c1, rfl, hb1, ho1⟩, kp⟩
  (conv => whnf)
  refine VLoad.by_ (hb1.cell 0) ?_
  (conv => whnf)
  exact ⟨⟨A1, c1, rfl, ho1⟩, kp⟩

theorem nv_one (l : List Nat) : ∀ u ∈ l.map nv, u.oneCell' = true := by
  intro u hu
  obtain ⟨x, _, rfl⟩ := List.mem_map.1 hu
  rfl
theorem VIdx.nv {w : World} {A : Option Addr} {n : Nat} {l : List Nat} (hs : Sl w 1 A n (l.map nv)) {i : Int} (j : Nat) (hj : (j : Int) = i) (hn : j < n) {K : Addr → Prop}
    (hK : ∀ b o, A = some ⟨b, o, none⟩ → w.cell? ⟨b, o + j, none⟩ = some (Value.int .i64 ((l.getD j 0 : Nat) : Int)) → K ⟨b, o + j, none⟩) : VIdx A n i 1 K := by
  obtain ⟨b, o, hA, hc⟩ := hs.at_ (by omega)
  have hl : l.length = n := by simpa using hs.len
  refine VIdx.one j hj hn hA (hK b o hA (hc j _ ?_))
  rw [List.getElem?_map, List.getElem?_eq_getElem (by omega), List.getD_eq_getElem?_getD, List.getElem?_eq_getElem (by omega)]
  rfl

theorem pick_ok (w : World) {A P : Option Addr} {m n c d : Nat} {l : List UInt8} {ps : List Nat} (hs : Sl w 1 A m (l.map vb)) (hp : Sl w 1 P n (ps.map nv)) (hn : n ≤ 1000) (hm : m ≤ 1000) (hr : ∀ i, i < n → 1 ≤ ps.getD i 0 ∧ ps.getD i 0 ≤ m) :
    VC Try.prog 44 [.slice A m c, .slice P n d] w (fun v w' => (∃ A' c', v = .slice A' n c' ∧ Own w' w.heap.size T8 1 A' n c' ((putP l (fun i => ps.getD i 0) n).map vb)) ∧ Keep No w w') := by
  refine VC.of tt_ok Try.func44 rfl (by decide +kernel) (Nat.le_of_ble_eq_true rfl) ?_; (conv => whnf)
  refine VLoop.by_ tt_ok (S := Nat × Option Addr × Nat) (fun | (k, Al, cl) => [(0, .slice A m c), (1, .slice P n d), (5, .slice Al k cl), (6, .int .i64 k)])
    (fun | (k, Al, cl) => fun w' => k ≤ n ∧ Own w' w.heap.size T8 1 Al k cl ((putP l (fun i => ps.getD i 0) k).map vb) ∧ Keep No w w') (fun | (k, _) => n - k)
    (0, none, 0) ⟨rfl, rfl, rfl, rfl, trivial⟩ ⟨by omega, Own.nil _ _ _ _, Keep.refl _ _⟩ ?_
  rintro ⟨k, Al, cl⟩ w' ⟨hk, hown, kk⟩
  (conv => whnf)
  refine VCmp.mk (fun h => ?_) (fun h => ?_) <;> (conv => whnf)
  rotate_left 1
  · obtain rfl : k = n := by omega
    exact ⟨⟨Al, cl, rfl, hown⟩, kk⟩
  have hs := hs.keepNo kk
  have hp := hp.keepNo kk
  have hrk := hr k (by omega)
  refine VIdx.nv hp k rfl (by omega) (fun b_ o_ hA_ hc_ => ?_)
  (conv => whnf)
  refine VLoad.by_ hc_ ?_
  (conv => whnf)
  refine VRes.i64 (by omega) ?_; (conv => whnf)
  refine VIdx.sl (hs) (ps.getD k 0 - 1) (by first | rfl | omega) (by omega) (fun b_ o_ hA_ hc_ => ?_); (conv => whnf); refine VLoad.by_ hc_ ?_; (conv => whnf)
  refine VFill.by_ rfl ?_; (conv => whnf)
  refine ⟨fun w2 hb2 k2 => ?_⟩
  have kk := kk.trans k2
  have hown := hown.keepNo k2
  (conv => whnf)
  refine appBd (w0 := w) (ys := [l.getD (ps.getD k 0 - 1) 0]) kk hown (Sl.ofBlk (n := 1) (size := 1) hb2 rfl) (by omega) ?_
  intro A3 c3 w3 ho3 k3 _
  (conv => whnf)
  refine VRes.i64 (by omega) ?_; (conv => whnf)
  exact ⟨(k + 1, A3, c3), ⟨rfl, rfl, rfl, rfl, trivial⟩, ⟨by omega, by rw [putP_snoc]; exact ho3, k3⟩, by dsimp only; omega⟩

def halfN (d : Bool) : List Nat := if d then rightL else leftL
theorem half_range (d : Bool) : ∀ i, i < 28 → 1 ≤ (halfN d).getD i 0 ∧ (halfN d).getD i 0 ≤ 64 := by
  have : ∀ d : Bool, ∀ i : Fin 28, 1 ≤ (halfN d).getD i.val 0 ∧ (halfN d).getD i.val 0 ≤ 64 := by decide +kernel
  exact fun i h => this d ⟨i, h⟩
def halfK (d : Bool) (k : Nat) : List Nat := (List.range k).map (withoutO (halfN d))
theorem half_ok (w : World) (d : Bool) :
    VC Try.prog 46 [.bool d] w (fun v w' => (∃ A c, v = .slice A 28 c ∧ Sl w' 1 A 28 ((halfK d 28).map nv)) ∧ Keep No w w') := by
  cases d with
  | false =>
    refine VC.of tt_ok Try.func46 rfl (by decide +kernel) (Nat.le_of_ble_eq_true rfl) ?_; (conv => whnf)
    refine VFill.by_ rfl ?_; (conv => whnf)
    refine ⟨fun w1 hb kp => ?_⟩; have hb_lt := Blk.lt hb; have kp_sz := kp.size; (conv => whnf)
    have hs : Sl w1 1 (some ⟨w.heap.size, 0, none⟩) 28 ((halfN false).map nv) := Sl.ofBlk (n := 28) (size := 1) hb rfl
    have hblk : w.heap.size < w1.heap.size := Blk.lt hb
    refine VLoop.by_ tt_ok (S := Nat × Option Addr × Nat) (fun | (k, Al, cl) => [(3, .slice (some ⟨w.heap.size, 0, none⟩) 28 28), (4, .slice Al k cl), (5, .int .i64 k)])
      (fun | (k, Al, cl) => fun w' => k ≤ 28 ∧ Own w' w1.heap.size TId 1 Al k cl ((halfK false k).map nv) ∧ Keep No w1 w') (fun | (k, _) => 28 - k)
      (0, none, 0) ⟨rfl, rfl, rfl, trivial⟩ ⟨by omega, Own.nil _ _ _ _, Keep.refl _ _⟩ ?_
    rintro ⟨k, Al, cl⟩ w' ⟨hk, hown, kk⟩
    (conv => whnf)
    refine VCmp.mk (fun h => ?_) (fun h => ?_) <;> (conv => whnf)
    rotate_left 1
    · obtain rfl : k = 28 := by omega
      exact ⟨⟨Al, cl, rfl, Sl.ofOwn hown⟩, kp.trans kk⟩
    have hs' := hs.keepNo kk
    have hr := half_range false k (by omega)
    obtain ⟨x, hx⟩ : ∃ x, x = (halfN false).getD k 0 := ⟨_, rfl⟩
    have e : withoutO (halfN false) k = 7 * ((x - 1) / 8) + (x - 1) % 8 + 1 := by rw [hx]; unfold withoutO; omega
    have q1 : ((x : Int) - 1).tdiv 8 = (((x - 1) / 8 : Nat) : Int) := by rw [Int.tdiv_eq_ediv_of_nonneg (by omega)]; omega
    have q2 : ((x : Int) - 1).tmod 8 = (((x - 1) % 8 : Nat) : Int) := by rw [Int.tmod_eq_emod_of_nonneg (by omega)]; omega
    have hsep : ∀ b_, b_ < w1.heap.size → ¬ ownS Al b_ := fun b_ hb ⟨a, ha, e⟩ => by have := (hown.base_ ha).1; omega
    refine VDraw.by_ tt_ok rfl (.take 0 (.take 1 (.take 2 (.take 3 (.take 4 (.take 5 (.take 6 (.take 7 (.take 8 (.take 9 (.take 10 (.take 11 (.take 12 (.take 13 (.take 14 (.take 15 (.one 16 (.one 17 (.take 18 .done))))))))))))))))))) (by decide +kernel) (fun x => Keep (ownS Al) w' x) (fun x h1 h2 h3 h4 => (Keep.ofHeap h1 h2 h3 h4).mono (fun _ _ h => h.elim)) (fun wd hd kd => ?_)
    have kk := kk.trans kd
    (conv => whnf)
    refine VIdx.nv hs' k rfl (by omega) (fun b_ o_ hA_ hc_ => ?_)
    (conv => whnf)
    refine VLoad.by_ (fun y hy => hy.cell hc_ (hsep _ (by cases hA_; exact hblk))) ?_
    rw [← hx]
    (conv => whnf)
    refine VRes.i64 (by omega) ?_; (conv => whnf)
    refine VReq.mk (by omega) ?_
    rw [q1]
    refine VRes.i64 (by omega) ?_; (conv => whnf)
    refine VRes.i64 (by omega) ?_; (conv => whnf)
    refine VIdx.nv hs' k rfl (by omega) (fun b_ o_ hA_ hc_ => ?_)
    (conv => whnf)
    refine VLoad.by_ (fun y hy => hy.cell hc_ (hsep _ (by cases hA_; exact hblk))) ?_
    rw [← hx]
    (conv => whnf)
    refine VRes.i64 (by omega) ?_; (conv => whnf)
    refine VReq.mk (by omega) ?_
    refine VRes.to (congrArg (Value.int .i64) q2) ?_
    (conv => whnf)
    refine VRes.i64 (by omega) ?_; (conv => whnf)
    rw [show (7 * (((x - 1) / 8 : Nat) : Int) + (((x - 1) % 8 : Nat) : Int) + 1) = ((withoutO (halfN false) k : Nat) : Int) from by rw [e]; omega]
    refine VRes.i64 (by omega) ?_; (conv => whnf)
    refine VFill.by_ rfl ?_; (conv => whnf)
    refine ⟨fun w3 hb3 k3 => ?_⟩
    (conv => whnf)
    refine VOwe.same ((kd.trans k3).mono (fun _ _ h => h.elim)) ?_
    (conv => whnf)
    have hown := (hown.keepNo kd).keepNo k3
    have kk := kk.trans k3
    refine VApp.own tt_ok (it := ty74) (ei := ty3) rfl rfl rfl (size := 1) rfl rfl (by omega) hown (ys := [nv (withoutO (halfN false) k)]) (Sl.ofBlk (n := 1) (size := 1) hb3 rfl) (nv_one [_]) (by show (k + 1) * 8 ≤ _; omega) (by omega) kk.size ?_
    intro A4 c4 w4 ho4 k4 hat
    have kk := kk.own hown k4
    (conv => whnf)
    refine VOwe.same (((kd.trans k3).mono (fun _ _ h => h.elim)).trans k4) ?_
    (conv => whnf)
    refine VRes.i64 (by omega) ?_; (conv => whnf)
    exact ⟨(k + 1, A4, c4), ⟨rfl, rfl, rfl, trivial⟩, ⟨by omega, by unfold halfK; rw [List.range_succ, List.map_append, List.map_append]; exact ho4, kk⟩, by dsimp only; omega⟩
  | true =>
    refine VC.of tt_ok Try.func46 rfl (by decide +kernel) (Nat.le_of_ble_eq_true rfl) ?_; (conv => whnf)
    refine VFill.by_ rfl ?_; (conv => whnf)
    refine ⟨fun w0 hb kp => ?_⟩; have hb_lt := Blk.lt hb; have kp_sz := kp.size; (conv => whnf)
    refine VFill.by_ rfl ?_; (conv => whnf)
    refine ⟨fun w1 hb2 k2 => ?_⟩
    have hb2_lt := Blk.lt hb2
    have kp := kp.trans k2
    (conv => whnf)
    have hs : Sl w1 1 (some ⟨w0.heap.size, 0, none⟩) 28 ((halfN true).map nv) := Sl.ofBlk (n := 28) (size := 1) hb2 rfl
    have hblk : w0.heap.size < w1.heap.size := Blk.lt hb2
    refine VLoop.by_ tt_ok (S := Nat × Option Addr × Nat) (fun | (k, Al, cl) => [(3, .slice (some ⟨w0.heap.size, 0, none⟩) 28 28), (4, .slice Al k cl), (5, .int .i64 k)])
      (fun | (k, Al, cl) => fun w' => k ≤ 28 ∧ Own w' w1.heap.size TId 1 Al k cl ((halfK true k).map nv) ∧ Keep No w1 w') (fun | (k, _) => 28 - k)
      (0, none, 0) ⟨rfl, rfl, rfl, trivial⟩ ⟨by omega, Own.nil _ _ _ _, Keep.refl _ _⟩ ?_
    rintro ⟨k, Al, cl⟩ w' ⟨hk, hown, kk⟩
    (conv => whnf)
    refine VCmp.mk (fun h => ?_) (fun h => ?_) <;> (conv => whnf)
    rotate_left 1
    · obtain rfl : k = 28 := by omega
      exact ⟨⟨Al, cl, rfl, Sl.ofOwn hown⟩, kp.trans kk⟩
    have hs' := hs.keepNo kk
    have hr := half_range true k (by omega)
    obtain ⟨x, hx⟩ : ∃ x, x = (halfN true).getD k 0 := ⟨_, rfl⟩
    have e : withoutO (halfN true) k = 7 * ((x - 1) / 8) + (x - 1) % 8 + 1 := by rw [hx]; unfold withoutO; omega
    have q1 : ((x : Int) - 1).tdiv 8 = (((x - 1) / 8 : Nat) : Int) := by rw [Int.tdiv_eq_ediv_of_nonneg (by omega)]; omega
    have q2 : ((x : Int) - 1).tmod 8 = (((x - 1) % 8 : Nat) : Int) := by rw [Int.tmod_eq_emod_of_nonneg (by omega)]; omega
    have hsep : ∀ b_, b_ < w1.heap.size → ¬ ownS Al b_ := fun b_ hb ⟨a, ha, e⟩ => by have := (hown.base_ ha).1; omega
    refine VDraw.by_ tt_ok rfl (.take 0 (.take 1 (.take 2 (.take 3 (.take 4 (.take 5 (.take 6 (.take 7 (.take 8 (.take 9 (.take 10 (.take 11 (.take 12 (.take 13 (.take 14 (.take 15 (.one 16 (.one 17 (.take 18 .done))))))))))))))))))) (by decide +kernel) (fun x => Keep (ownS Al) w' x) (fun x h1 h2 h3 h4 => (Keep.ofHeap h1 h2 h3 h4).mono (fun _ _ h => h.elim)) (fun wd hd kd => ?_)
    have kk := kk.trans kd
    (conv => whnf)
    refine VIdx.nv hs' k rfl (by omega) (fun b_ o_ hA_ hc_ => ?_)
    (conv => whnf)
    refine VLoad.by_ (fun y hy => hy.cell hc_ (hsep _ (by cases hA_; exact hblk))) ?_
    rw [← hx]
    (conv => whnf)
    refine VRes.i64 (by omega) ?_; (conv => whnf)
    refine VReq.mk (by omega) ?_
    rw [q1]
    refine VRes.i64 (by omega) ?_; (conv => whnf)
    refine VRes.i64 (by omega) ?_; (conv => whnf)
    refine VIdx.nv hs' k rfl (by omega) (fun b_ o_ hA_ hc_ => ?_)
    (conv => whnf)
    refine VLoad.by_ (fun y hy => hy.cell hc_ (hsep _ (by cases hA_; exact hblk))) ?_
    rw [← hx]
    (conv => whnf)
    refine VRes.i64 (by omega) ?_; (conv => whnf)
    refine VReq.mk (by omega) ?_
    refine VRes.to (congrArg (Value.int .i64) q2) ?_
    (conv => whnf)
    refine VRes.i64 (by omega) ?_; (conv => whnf)
    rw [show (7 * (((x - 1) / 8 : Nat) : Int) + (((x - 1) % 8 : Nat) : Int) + 1) = ((withoutO (halfN true) k : Nat) : Int) from by rw [e]; omega]
    refine VRes.i64 (by omega) ?_; (conv => whnf)
    refine VFill.by_ rfl ?_; (conv => whnf)
    refine ⟨fun w3 hb3 k3 => ?_⟩
    (conv => whnf)
    refine VOwe.same ((kd.trans k3).mono (fun _ _ h => h.elim)) ?_
    (conv => whnf)
    have hown := (hown.keepNo kd).keepNo k3
    have kk := kk.trans k3
    refine VApp.own tt_ok (it := ty74) (ei := ty3) rfl rfl rfl (size := 1) rfl rfl (by omega) hown (ys := [nv (withoutO (halfN true) k)]) (Sl.ofBlk (n := 1) (size := 1) hb3 rfl) (nv_one [_]) (by show (k + 1) * 8 ≤ _; omega) (by omega) kk.size ?_
    intro A4 c4 w4 ho4 k4 hat
    have kk := kk.own hown k4
    (conv => whnf)
    refine VOwe.same (((kd.trans k3).mono (fun _ _ h => h.elim)).trans k4) ?_
    (conv => whnf)
    refine VRes.i64 (by omega) ?_; (conv => whnf)
    exact ⟨(k + 1, A4, c4), ⟨rfl, rfl, rfl, trivial⟩, ⟨by omega, by unfold halfK; rw [List.range_succ, List.map_append, List.map_append]; exact ho4, kk⟩, by dsimp only; omega⟩

theorem turn_ok (w : World) {A : Option Addr} {m c : Nat} {l : List UInt8} {k : Nat} (hs : Sl w 1 A m (l.map vb)) (hmc : m ≤ c) (hk : k ≤ m) (hm : m ≤ 1000) :
    VC Try.prog 47 [.slice A m c, .int .i64 k] w (fun v w' => (∃ A' c', v = .slice A' m c' ∧ Own w' w.heap.size T8 1 A' m c' ((turnP l k).map vb)) ∧ Keep No w w') := by
  have hl : l.length = m := by simpa using hs.len
  refine VC.of tt_ok Try.func47 rfl (by decide +kernel) (Nat.le_of_ble_eq_true rfl) ?_; (conv => whnf)
  refine VDraw.by_ tt_ok rfl (.take 0 (.take 1 (.take 2 (.take 4 (.take 5 (.take 6 (.one 3 (.one 7 (.take 8 .done))))))))) (by decide +kernel) _ (fun x h1 h2 h3 h4 => Keep.ofHeap h1 h2 h3 h4) (fun wd hd kd => ?_)
  (conv => whnf)
  refine VReq.mk hmc ?_
  refine VCut.by_ k m rfl rfl hk hmc ?_
  intro A2 hA2
  have h2 := Sl.cut8 hs hk (Nat.le_refl _) hmc hA2
  (conv => whnf)
  refine VCut.by_ 0 k rfl rfl (by omega) (by omega) ?_
  intro A3 hA3
  have h3 := Sl.cut8 hs (Nat.zero_le k) hk hmc (A' := A3) hA3
  (conv => whnf)
  refine (copy_ok wd (h2.keepNo kd) (by omega)).mono ?_
  rintro v w2 ⟨A4, c4, rfl, ho4, k4⟩
  have ho4 := ho4.mono (base' := w.heap.size) kd.size
  have kp := kd.trans k4
  (conv => whnf)
  refine VOwe.same kp ?_
  (conv => whnf)
  refine appBd (w0 := w) kp ho4 (h3.keepNo kp) (by omega) ?_
  intro A5 c5 w5 ho5 k5 _
  (conv => whnf)
  refine VOwe.to (fun _ => True) (fun h => absurd h (by decide +kernel)) trivial ?_; (conv => whnf)
  have e : m - k + (k - 0) = m := by omega
  rw [e] at ho5
  refine ⟨⟨A5, c5, by rw [e]; rfl, ?_⟩, k5⟩
  have e2 : List.drop k (List.take m l) ++ List.drop 0 (List.take k l) = turnP l k := by
    unfold turnP; rw [List.take_of_length_le (by omega)]; rfl
  rw [← e2]; exact ho5

def boxL (i : Nat) : List Nat := ((sboxL.drop (4 * i)).take 4).flatten.map UInt8.toNat
theorem boxL_at : ∀ i r c, i < 8 → r < 4 → c < 16 → (boxL i).getD (16 * r + c) 0 = ((sboxL.getD (4 * i + r) []).getD c 0).toNat := by
  have h : ∀ i : Fin 8, ∀ r : Fin 4, ∀ c : Fin 16, (boxL i.val).getD (16 * r.val + c.val) 0 = ((sboxL.getD (4 * i.val + r.val) []).getD c.val 0).toNat := by decide +kernel
  exact fun i r c hi hr hc => h ⟨i, hi⟩ ⟨r, hr⟩ ⟨c, hc⟩
set_option maxRecDepth 100000 in
theorem box_ok (w : World) {i : Nat} (hi : i < 8) :
    VC Try.prog 48 [.int .i64 i] w (fun v w' => (∃ A c, v = .slice A 64 c ∧ Sl w' 1 A 64 ((boxL i).map nv)) ∧ Keep No w w') := by
  refine VC.of tt_ok Try.func48 rfl (by decide +kernel) (Nat.le_of_ble_eq_true rfl) ?_; (conv => whnf)
  refine VCmp.mk (fun h => ?_) (fun h => ?_) <;> (conv => whnf)
  · obtain rfl : i = 0 := by omega
    refine VFill.by_ rfl ?_; (conv => whnf)
    refine ⟨fun w1 hb kp => ?_⟩; have hb_lt := Blk.lt hb; have kp_sz := kp.size; (conv => whnf)
    exact ⟨⟨_, _, rfl, Sl.ofBlk (n := 64) (size := 1) hb rfl⟩, kp⟩
  refine VCmp.mk (fun h => ?_) (fun h => ?_) <;> (conv => whnf)
  · obtain rfl : i = 1 := by omega
    refine VFill.by_ rfl ?_; (conv => whnf)
    refine ⟨fun w1 hb kp => ?_⟩; have hb_lt := Blk.lt hb; have kp_sz := kp.size; (conv => whnf)
    exact ⟨⟨_, _, rfl, Sl.ofBlk (n := 64) (size := 1) hb rfl⟩, kp⟩
  refine VCmp.mk (fun h => ?_) (fun h => ?_) <;> (conv => whnf)
  · obtain rfl : i = 2 := by omega
    refine VFill.by_ rfl ?_; (conv => whnf)
    refine ⟨fun w1 hb kp => ?_⟩; have hb_lt := Blk.lt hb; have kp_sz := kp.size; (conv => whnf)
    exact ⟨⟨_, _, rfl, Sl.ofBlk (n := 64) (size := 1) hb rfl⟩, kp⟩
  refine VCmp.mk (fun h => ?_) (fun h => ?_) <;> (conv => whnf)
  · obtain rfl : i = 3 := by omega
    refine VFill.by_ rfl ?_; (conv => whnf)
    refine ⟨fun w1 hb kp => ?_⟩; have hb_lt := Blk.lt hb; have kp_sz := kp.size; (conv => whnf)
    exact ⟨⟨_, _, rfl, Sl.ofBlk (n := 64) (size := 1) hb rfl⟩, kp⟩
  refine VCmp.mk (fun h => ?_) (fun h => ?_) <;> (conv => whnf)
  · obtain rfl : i = 4 := by omega
    refine VFill.by_ rfl ?_; (conv => whnf)
    refine ⟨fun w1 hb kp => ?_⟩; have hb_lt := Blk.lt hb; have kp_sz := kp.size; (conv => whnf)
    exact ⟨⟨_, _, rfl, Sl.ofBlk (n := 64) (size := 1) hb rfl⟩, kp⟩
  refine VCmp.mk (fun h => ?_) (fun h => ?_) <;> (conv => whnf)
  · obtain rfl : i = 5 := by omega
    refine VFill.by_ rfl ?_; (conv => whnf)
    refine ⟨fun w1 hb kp => ?_⟩; have hb_lt := Blk.lt hb; have kp_sz := kp.size; (conv => whnf)
    exact ⟨⟨_, _, rfl, Sl.ofBlk (n := 64) (size := 1) hb rfl⟩, kp⟩
  refine VCmp.mk (fun h => ?_) (fun h => ?_) <;> (conv => whnf)
  · obtain rfl : i = 6 := by omega
    refine VFill.by_ rfl ?_; (conv => whnf)
    refine ⟨fun w1 hb kp => ?_⟩; have hb_lt := Blk.lt hb; have kp_sz := kp.size; (conv => whnf)
    exact ⟨⟨_, _, rfl, Sl.ofBlk (n := 64) (size := 1) hb rfl⟩, kp⟩
  obtain rfl : i = 7 := by omega
  refine VFill.by_ rfl ?_; (conv => whnf)
  refine ⟨fun w1 hb kp => ?_⟩; have hb_lt := Blk.lt hb; have kp_sz := kp.size; (conv => whnf)
  exact ⟨⟨_, _, rfl, Sl.ofBlk (n := 64) (size := 1) hb rfl⟩, kp⟩
end Go.Proofs.Ytififgodhnelgaa
