/-
  DES, the program's: bits turned; bytes of bits.
-/
import Derived.Test.YtoeijgbjgbgelaaDoorD3
namespace Go.Proofs.YtoeijgbjgbgelaaDoor
open Go V

def turnP (l : List UInt8) (k : Nat) : List UInt8 := l.drop k ++ l.take k
theorem turnP_len {l : List UInt8} {k : Nat} (h : k ≤ l.length) : (turnP l k).length = l.length := by
  unfold turnP; rw [List.length_append, List.length_drop, List.length_take]; omega

theorem turned_ok (w : World) {A : Option Addr} {m c : Nat} {l : List UInt8} {k : Nat} (hs : Sl w 1 A m (l.map vb)) (hmc : m ≤ c) (hk : k ≤ m) (hm : m ≤ 1000) :
    VC Tryd.prog 53 [.slice A m c, .int .i64 (k : Int)] w (fun v w' => (∃ A' c', v = .slice A' m c' ∧ Own w' w.heap.size T8 1 A' m c' ((turnP l k).map vb)) ∧ Keep No w w') := by
  have hl : l.length = m := by simpa using hs.len
  refine VC.of tt_ok Tryd.func53 rfl (by decide +kernel) (Nat.le_of_ble_eq_true rfl) ?_; (conv => whnf)
  refine VDraw.by_ tt_ok rfl (.take 0 (.take 1 (.take 2 (.take 4 (.take 5 (.take 6 (.one 3 (.one 7 (.take 8 .done))))))))) (by decide +kernel) _ (fun x h1 h2 h3 h4 => Keep.ofHeap h1 h2 h3 h4) (fun wd hd kd => ?_)
  have hs := hs.keepNo kd
  (conv => whnf)
  refine VReq.mk hmc ?_
  refine VCut.by_ k m rfl rfl hk hmc ?_
  intro A1 hA1
  have h1 := Sl.cut8 hs (l := k) (h := m) hk (by omega) hmc (A' := A1) hA1
  rw [show l.take m = l from List.take_of_length_le (by omega)] at h1
  (conv => whnf)
  refine VCut.by_ 0 k rfl rfl (by omega) (by omega) ?_
  intro A2 hA2
  have h2 := Sl.cut8 hs (l := 0) (h := k) (by omega) hk hmc (A' := A2) hA2
  have h2 : Sl wd 1 A2 (k - 0) ((l.take k).map vb) := h2
  (conv => whnf)
  refine appBd (w0 := w) (xs := []) (n := 0) kd (Own.nil _ _ _ _) h1 (by omega) ?_
  intro A3 c3 w3 ho3 hk3 hkA
  have h2 := h2.keepP hkA (fun a ha h0 ⟨a0, e, _⟩ => by cases e)
  (conv => whnf)
  refine VOwe.to (fun _ => True) (fun h => absurd h (by decide +kernel)) trivial ?_; (conv => whnf)
  refine appBd (w0 := w) (xs := l.drop k) (n := 0 + (m - k)) hk3 ho3 h2 (by omega) ?_
  intro A4 c4 w4 ho4 hk4 _
  (conv => whnf)
  refine VOwe.to (fun _ => True) (fun h => absurd h (by decide +kernel)) trivial ?_; (conv => whnf)
  refine ⟨⟨A4, c4, ?_, ?_⟩, hk4⟩
  · rw [show 0 + (m - k) + (k - 0) = m from by omega]; rfl
  · rw [show 0 + (m - k) + (k - 0) = m from by omega] at ho4
    exact ho4

/-- The bytes of the first k bits. -/
def byteK (l : List UInt8) (n : Nat) : Nat → List UInt8
  | 0 => List.replicate n 0
  | k + 1 => (byteK l n k).set (k / 8) ((byteK l n k).getD (k / 8) 0 ||| UInt8.ofNat ((l.getD k 0).toNat * 2 ^ (7 - k % 8)))
theorem byteK_len (l : List UInt8) (n k : Nat) : (byteK l n k).length = n := by
  induction k with
  | zero => simp [byteK]
  | succ k ih => rw [byteK, List.length_set, ih]
def bytesP (l : List UInt8) : List UInt8 := byteK l (l.length / 8) l.length

theorem VRes.shlN8 {N s : Nat} {a l : Int} {K : Value → Prop} (ha : a = (N : Int)) (hl : l = (s : Int)) (hs : s ≤ 8) (hK : K (vb (UInt8.ofNat (N * 2 ^ s)))) :
    VRes (.int .u8 (IntKind.wrap .u8 (a * 2 ^ (min l.toNat (IntKind.bits .u8))))) K := by
  subst ha; subst hl
  refine VRes.byte (N := N * 2 ^ s) ?_ hK
  have : min (Int.toNat (s : Int)) (IntKind.bits .u8) = s := by
    have : IntKind.bits .u8 = 8 := rfl
    rw [this, Int.toNat_natCast]; omega
  rw [this]
  simp

theorem bytesOf_ok (w : World) {A : Option Addr} {n c : Nat} {l : List UInt8} (hs : Sl w 1 A n (l.map vb)) (hn : n ≤ 1000) (h8 : n % 8 = 0) :
    VC Tryd.prog 41 [.slice A n c] w (fun v w' => (∃ q, v = .slice (some ⟨q, 0, none⟩) (n / 8) (n / 8) ∧ Blk w' q T8 ((bytesP l).map vb) ∧ w.heap.size ≤ q) ∧ Keep No w w') := by
  have hl : l.length = n := by simpa using hs.len
  refine VC.of tt_ok Tryd.func41 rfl (by decide +kernel) (Nat.le_of_ble_eq_true rfl) ?_; (conv => whnf)
  have q1 : (n : Int).tdiv 8 = ((n / 8 : Nat) : Int) := by rw [Int.tdiv_eq_ediv_of_nonneg (by omega)]; rfl
  refine VReq.mk (by omega) ?_
  refine VRes.i64 (by rw [q1]; omega) ?_
  rw [q1]
  (conv => whnf)
  refine VMake.row_ (n := n / 8) (z := vb 0) (bytes := 1) Tryd.underlying23 (by kernel_rfl) rfl (by omega) (by omega) ?_
  intro w1 hq kp
  have hq : Blk w1 w.heap.size T8 ((byteK l (n / 8) 0).map vb) := by rw [byteK, List.map_replicate]; exact hq
  (conv => whnf)
  refine VLoop.by_ tt_ok (S := Nat) (fun k => [(3, .slice (some ⟨w.heap.size, 0, none⟩) (n / 8) (n / 8)), (10, .slice A n c), (11, .int .i64 n), (12, .int .i64 k)])
    (fun k w' => k ≤ n ∧ Blk w' w.heap.size T8 ((byteK l (n / 8) k).map vb) ∧ Keep No w w') (fun k => n - k) 0
    ⟨rfl, rfl, rfl, rfl, trivial⟩ ⟨by omega, hq, kp⟩ ?_
  rintro k w' ⟨hk, hq, kp⟩
  have hlt := Blk.lt hq
  (conv => whnf)
  refine VCmp.mk (fun h => ?_) (fun h => ?_) <;> (conv => whnf)
  rotate_left 1
  · obtain rfl : k = n := by omega
    unfold bytesP
    rw [hl]
    exact ⟨⟨_, rfl, hq, Nat.le_refl _⟩, kp⟩
  refine VIdx.sl (hs.keepNo kp) k rfl (by omega) (fun b_ o_ hA_ hc_ => ?_)
  (conv => whnf)
  refine VLoad.by_ hc_ ?_
  (conv => whnf)
  have q2 : (k : Int).tdiv 8 = ((k / 8 : Nat) : Int) := by rw [Int.tdiv_eq_ediv_of_nonneg (by omega)]; rfl
  have q3 : (k : Int).tmod 8 = ((k % 8 : Nat) : Int) := by rw [Int.tmod_eq_emod_of_nonneg (by omega)]; rfl
  have hbl := byteK_len l (n / 8) k
  have hcell : w'.cell? ⟨w.heap.size, k / 8, none⟩ = some (vb ((byteK l (n / 8) k).getD (k / 8) 0)) := by
    rw [hq.cell, List.getElem?_map, List.getD_eq_getElem?_getD, List.getElem?_eq_getElem (by omega)]
    rfl
  refine VDraw.by_ tt_ok rfl (.take 0 (.take 1 (.take 2 (.take 3 (.take 4 (.take 5 (.take 6 (.take 7 (.take 8 (.take 9 (.take 10 (.take 11 (.one 12 .done))))))))))))) (by decide +kernel) _ (fun x h1 h2 h3 h4 => Keep.ofHeap h1 h2 h3 h4) (fun wd hd kd => ?_)
  have kp := kp.trans kd
  have hq := hq.keepNo kd
  (conv => whnf)
  refine VReq.mk (by omega) ?_
  refine VRes.i64 (by rw [q2]; omega) ?_
  rw [q2]
  (conv => whnf)
  refine VIdx.one (k / 8) rfl (by omega) rfl ?_
  (conv => whnf)
  refine VLoad.keep (by simpa using hcell) ?_
  (conv => whnf)
  refine VReq.mk (by omega) ?_
  refine VRes.mk' ?_
  rw [q3]
  (conv => whnf)
  refine VRes.i64 (by omega) ?_; (conv => whnf)
  refine VReq.mk (by omega) ?_
  refine VRes.shlN8 (N := (l.getD k 0).toNat) (s := 7 - k % 8) rfl (by omega) (by omega) ?_
  (conv => whnf)
  refine VRes.or8 rfl rfl ?_
  (conv => whnf)
  refine VIdx.one (k / 8) rfl (by omega) rfl ?_
  (conv => whnf)
  refine VStore.one hq (by rw [List.length_map, hbl]; simp; omega) ?_
  intro w3 hq3 hk3 hk3_sz
  have kp := kp.fresh_ hk3 (Nat.le_refl _)
  (conv => whnf)
  refine VOwe.to (fun _ => True) (fun h => absurd h (by decide +kernel)) trivial ?_; (conv => whnf)
  refine VRes.i64 (by omega) ?_; (conv => whnf)
  exact ⟨k + 1, ⟨rfl, rfl, rfl, rfl, trivial⟩, ⟨by omega, by rw [byteK, List.map_set]; simpa using hq3, kp⟩, by omega⟩
end Go.Proofs.YtoeijgbjgbgelaaDoor
