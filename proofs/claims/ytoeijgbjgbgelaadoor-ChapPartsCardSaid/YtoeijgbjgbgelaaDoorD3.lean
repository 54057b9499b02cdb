/-
  DES, the program's: xor, bytes of bits, the lists, a row of an S-box.
-/
import Derived.Test.YtoeijgbjgbgelaaDoorD2
import Derived.Deep.OwnRows
namespace Go.Proofs.YtoeijgbjgbgelaaDoor
open Go V

theorem VMake.row_ {P : Program} {w : World} {t e : TypeId} {z : Value} {bytes n : Nat} {K : Value → World → Prop} (ht : P.underlying t = some (.slice e)) (hinfo : (P.info? e).map (fun i => (i.zero, i.size, i.bytes)) = some (some z, 1, bytes)) (hz1 : z.cells = #[z])
    (hbytes : bytes * n ≤ 281474976710656) (h63 : n ≤ 9223372036854775807)
    (hK : ∀ w', Blk w' w.heap.size e (List.replicate n z) → Keep No w w' → K (.slice (some ⟨w.heap.size, 0, none⟩) n n) w') : VMake P w t (.int .i64 (n : Int)) (.int .i64 (n : Int)) K := by
  refine ⟨⟨_, _, run_make_row' t e z bytes ht hinfo hz1 .i64 .i64 n hbytes h63 w, hK _ ?_ ⟨rfl, rfl, rfl, ?_, fun k hk _ => ?_⟩⟩⟩
  · show (w.heap.push _)[w.heap.size]? = _
    rw [Array.getElem?_push, if_pos rfl]
    have : madeCells #[z] n = (List.replicate n z).toArray := by
      apply Array.ext
      · simp [madeCells]
      · intro i h1 h2
        simp [madeCells, Nat.mod_one]
    rw [this]
  · show _ ≤ (w.heap.push _).size
    simp
  · show (w.heap.push _)[k]? = _
    rw [Array.getElem?_push, if_neg (by omega)]
theorem VRes.or8 {x y : UInt8} {a l : Int} {K : Value → Prop} (ha : a = (x.toNat : Int)) (hl : l = (y.toNat : Int)) (hK : K (vb (x ||| y))) :
    VRes (.int .u8 (IntKind.wrap .u8 ((BitVec.ofInt (IntKind.bits .u8) a ||| BitVec.ofInt (IntKind.bits .u8) l).toNat : Int))) K := by
  subst ha; subst hl
  show VRes (.int .u8 (IntKind.wrap .u8 ((BitVec.ofInt 8 (x.toNat : Int) ||| BitVec.ofInt 8 (y.toNat : Int)).toNat : Int))) K
  rw [ofInt_toNat8, ofInt_toNat8, wrap_nat8, Nat.mod_eq_of_lt (BitVec.isLt _)]
  exact ⟨by simpa [vb] using hK⟩

def xorK (a b : List UInt8) (n k : Nat) : List UInt8 := (List.range n).map fun i => if i < k then a.getD i 0 ^^^ b.getD i 0 else 0
def xorP (a b : List UInt8) (n : Nat) : List UInt8 := (List.range n).map fun i => a.getD i 0 ^^^ b.getD i 0
theorem xorK_zero (a b : List UInt8) (n : Nat) : (xorK a b n 0).map vb = List.replicate n (vb 0) := by
  apply List.ext_getElem
  · simp [xorK]
  · intro i h1 h2; simp [xorK]
theorem xorK_all (a b : List UInt8) (n : Nat) : xorK a b n n = xorP a b n := by
  apply List.ext_getElem
  · simp [xorK, xorP]
  · intro i h1 h2
    have : i < n := by simpa [xorP] using h2
    simp [xorK, xorP, this]
theorem xorK_set (a b : List UInt8) (n k : Nat) : (xorK a b n k).set k (a.getD k 0 ^^^ b.getD k 0) = xorK a b n (k + 1) := by
  apply List.ext_getElem
  · simp [xorK]
  · intro i h1 h2
    rw [List.getElem_set]
    by_cases h : k = i
    · subst h
      simp [xorK]
    · rw [if_neg h]
      by_cases h3 : i < k
      · have : i < k + 1 := by omega
        simp [xorK, h3, this]
      · have : ¬ i < k + 1 := by omega
        simp [xorK, h3, this]

theorem desXor_ok (w : World) {A B : Option Addr} {n m c d : Nat} {a b : List UInt8} (ha : Sl w 1 A n (a.map vb)) (hb : Sl w 1 B m (b.map vb)) (hnm : n ≤ m) (hn : n ≤ 1000) :
    VC Tryd.prog 37 [.slice A n c, .slice B m d] w (fun v w' => (∃ q, v = .slice (some ⟨q, 0, none⟩) n n ∧ Blk w' q T8 ((xorP a b n).map vb) ∧ w.heap.size ≤ q) ∧ Keep No w w') := by
  have hla : a.length = n := by simpa using ha.len
  have hlb : b.length = m := by simpa using hb.len
  refine VC.of tt_ok Tryd.func37 rfl (by decide +kernel) (Nat.le_of_ble_eq_true rfl) ?_; (conv => whnf)
  refine VMake.row_ (n := n) (z := vb 0) (bytes := 1) Tryd.underlying23 (by kernel_rfl) rfl (by omega) (by omega) ?_
  intro w1 hq kp
  rw [← xorK_zero a b n] at hq
  have hsz := kp.size
  have hlt := Blk.lt hq
  (conv => whnf)
  refine VLoop.by_ tt_ok (S := Nat) (fun k => [(0, .slice A n c), (1, .slice B m d), (5, .slice (some ⟨w.heap.size, 0, none⟩) n n), (11, .int .i64 n), (12, .int .i64 k)])
    (fun k w' => k ≤ n ∧ Blk w' w.heap.size T8 ((xorK a b n k).map vb) ∧ Keep No w w') (fun k => n - k) 0
    ⟨rfl, rfl, rfl, rfl, rfl, trivial⟩ ⟨by omega, hq, kp⟩ ?_
  rintro k w' ⟨hk, hq, kp⟩
  have hlt := Blk.lt hq
  (conv => whnf)
  refine VCmp.mk (fun h => ?_) (fun h => ?_) <;> (conv => whnf)
  rotate_left 1
  · obtain rfl : k = n := by omega
    rw [xorK_all] at hq
    exact ⟨⟨_, rfl, hq, Nat.le_refl _⟩, kp⟩
  have ha' := ha.keepNo kp
  have hb' := hb.keepNo kp
  refine VDraw.by_ tt_ok rfl (.take 0 (.take 1 (.take 2 (.take 3 (.take 4 (.take 5 (.take 6 (.take 7 (.take 8 (.take 9 (.take 10 (.take 11 (.one 12 .done))))))))))))) (by decide +kernel) _ (fun x h1 h2 h3 h4 => Keep.ofHeap h1 h2 h3 h4) (fun wd hd kd => ?_)
  have kp := kp.trans kd
  have hq := hq.keepNo kd
  (conv => whnf)
  refine VIdx.sl ha' k rfl (by omega) (fun b_ o_ hA_ hc_ => ?_)
  (conv => whnf)
  refine VLoad.keep hc_ ?_
  (conv => whnf)
  refine VIdx.sl hb' k rfl (by omega) (fun b_ o_ hA_ hc_ => ?_)
  (conv => whnf)
  refine VLoad.keep hc_ ?_
  (conv => whnf)
  refine VRes.xor8 rfl ?_
  (conv => whnf)
  refine VIdx.one k rfl (by omega) rfl ?_
  (conv => whnf)
  refine VStore.one hq (by rw [List.length_map]; simp [xorK]; omega) ?_
  intro w3 hq3 hk3 hk3_sz
  have kp := kp.fresh_ hk3 (Nat.le_refl _)
  (conv => whnf)
  refine VOwe.to (fun _ => True) (fun h => absurd h (by decide +kernel)) trivial ?_; (conv => whnf)
  refine VRes.i64 (by omega) ?_; (conv => whnf)
  exact ⟨k + 1, ⟨rfl, rfl, rfl, rfl, rfl, trivial⟩, ⟨by omega, by rw [← xorK_set, List.map_set]; simpa [vb] using hq3, kp⟩, by omega⟩

def leftL : List Nat := [57, 49, 41, 33, 25, 17, 9, 1, 58, 50, 42, 34, 26, 18, 10, 2, 59, 51, 43, 35, 27, 19, 11, 3, 60, 52, 44, 36]
theorem left_ok (w : World) : VC Tryd.prog 51 [] w (fun v w' => (∃ A c, v = .slice A 28 c ∧ Sl w' 1 A 28 (leftL.map nv)) ∧ Keep No w w') := by
  refine VC.of tt_ok Tryd.func51 rfl (by decide +kernel) (Nat.le_of_ble_eq_true rfl) ?_; (conv => whnf)
  refine VFill.by_ rfl ?_; (conv => whnf)
  refine ⟨fun w1 hb kp => ?_⟩; have hb_lt := Blk.lt hb; have kp_sz := kp.size; (conv => whnf)
  exact ⟨⟨_, _, rfl, Sl.ofBlk (n := 28) (size := 1) hb rfl⟩, kp⟩
def rightL : List Nat := [63, 55, 47, 39, 31, 23, 15, 7, 62, 54, 46, 38, 30, 22, 14, 6, 61, 53, 45, 37, 29, 21, 13, 5, 28, 20, 12, 4]
theorem right_ok (w : World) : VC Tryd.prog 52 [] w (fun v w' => (∃ A c, v = .slice A 28 c ∧ Sl w' 1 A 28 (rightL.map nv)) ∧ Keep No w w') := by
  refine VC.of tt_ok Tryd.func52 rfl (by decide +kernel) (Nat.le_of_ble_eq_true rfl) ?_; (conv => whnf)
  refine VFill.by_ rfl ?_; (conv => whnf)
  refine ⟨fun w1 hb kp => ?_⟩; have hb_lt := Blk.lt hb; have kp_sz := kp.size; (conv => whnf)
  exact ⟨⟨_, _, rfl, Sl.ofBlk (n := 28) (size := 1) hb rfl⟩, kp⟩
def mixedL : List Nat := [16, 7, 20, 21, 29, 12, 28, 17, 1, 15, 23, 26, 5, 18, 31, 10, 2, 8, 24, 14, 32, 27, 3, 9, 19, 13, 30, 6, 22, 11, 4, 25]
theorem mixed_ok (w : World) : VC Tryd.prog 40 [] w (fun v w' => (∃ cs, v = .func (.func 62) #[] cs ∧ OrdV w' 62 [] cs.toList 32 (fun i => mixedL.getD i 0)) ∧ Keep No w w') := by
  refine VC.of tt_ok Tryd.func40 rfl (by decide +kernel) (Nat.le_of_ble_eq_true rfl) ?_; (conv => whnf)
  refine VFill.by_ rfl ?_; (conv => whnf)
  refine ⟨fun w1 hb kp => ?_⟩; have hb_lt := Blk.lt hb; have kp_sz := kp.size; (conv => whnf)
  refine (listed_ok w1 (l := mixedL) (Sl.ofBlk (n := 32) (size := 1) hb rfl)).mono ?_
  rintro v w2 ⟨⟨cs, rfl, ho⟩, hk2⟩
  (conv => whnf)
  exact ⟨⟨cs, rfl, ho⟩, kp.trans hk2⟩
def chosenL : List Nat := [14, 17, 11, 24, 1, 5, 3, 28, 15, 6, 21, 10, 23, 19, 12, 4, 26, 8, 16, 7, 27, 20, 13, 2, 41, 52, 31, 37, 47, 55, 30, 40, 51, 45, 33, 48, 44, 49, 39, 56, 34, 53, 46, 42, 50, 36, 29, 32]
theorem chosen_ok (w : World) : VC Tryd.prog 54 [] w (fun v w' => (∃ cs, v = .func (.func 62) #[] cs ∧ OrdV w' 62 [] cs.toList 48 (fun i => chosenL.getD i 0)) ∧ Keep No w w') := by
  refine VC.of tt_ok Tryd.func54 rfl (by decide +kernel) (Nat.le_of_ble_eq_true rfl) ?_; (conv => whnf)
  refine VFill.by_ rfl ?_; (conv => whnf)
  refine ⟨fun w1 hb kp => ?_⟩; have hb_lt := Blk.lt hb; have kp_sz := kp.size; (conv => whnf)
  refine (listed_ok w1 (l := chosenL) (Sl.ofBlk (n := 48) (size := 1) hb rfl)).mono ?_
  rintro v w2 ⟨⟨cs, rfl, ho⟩, hk2⟩
  (conv => whnf)
  exact ⟨⟨cs, rfl, ho⟩, kp.trans hk2⟩
def sboxL : List (List UInt8) := [
  [14, 4, 13, 1, 2, 15, 11, 8, 3, 10, 6, 12, 5, 9, 0, 7],
  [0, 15, 7, 4, 14, 2, 13, 1, 10, 6, 12, 11, 9, 5, 3, 8],
  [4, 1, 14, 8, 13, 6, 2, 11, 15, 12, 9, 7, 3, 10, 5, 0],
  [15, 12, 8, 2, 4, 9, 1, 7, 5, 11, 3, 14, 10, 0, 6, 13],
  [15, 1, 8, 14, 6, 11, 3, 4, 9, 7, 2, 13, 12, 0, 5, 10],
  [3, 13, 4, 7, 15, 2, 8, 14, 12, 0, 1, 10, 6, 9, 11, 5],
  [0, 14, 7, 11, 10, 4, 13, 1, 5, 8, 12, 6, 9, 3, 2, 15],
  [13, 8, 10, 1, 3, 15, 4, 2, 11, 6, 7, 12, 0, 5, 14, 9],
  [10, 0, 9, 14, 6, 3, 15, 5, 1, 13, 12, 7, 11, 4, 2, 8],
  [13, 7, 0, 9, 3, 4, 6, 10, 2, 8, 5, 14, 12, 11, 15, 1],
  [13, 6, 4, 9, 8, 15, 3, 0, 11, 1, 2, 12, 5, 10, 14, 7],
  [1, 10, 13, 0, 6, 9, 8, 7, 4, 15, 14, 3, 11, 5, 2, 12],
  [7, 13, 14, 3, 0, 6, 9, 10, 1, 2, 8, 5, 11, 12, 4, 15],
  [13, 8, 11, 5, 6, 15, 0, 3, 4, 7, 2, 12, 1, 10, 14, 9],
  [10, 6, 9, 0, 12, 11, 7, 13, 15, 1, 3, 14, 5, 2, 8, 4],
  [3, 15, 0, 6, 10, 1, 13, 8, 9, 4, 5, 11, 12, 7, 2, 14],
  [2, 12, 4, 1, 7, 10, 11, 6, 8, 5, 3, 15, 13, 0, 14, 9],
  [14, 11, 2, 12, 4, 7, 13, 1, 5, 0, 15, 10, 3, 9, 8, 6],
  [4, 2, 1, 11, 10, 13, 7, 8, 15, 9, 12, 5, 6, 3, 0, 14],
  [11, 8, 12, 7, 1, 14, 2, 13, 6, 15, 0, 9, 10, 4, 5, 3],
  [12, 1, 10, 15, 9, 2, 6, 8, 0, 13, 3, 4, 14, 7, 5, 11],
  [10, 15, 4, 2, 7, 12, 9, 5, 6, 1, 13, 14, 0, 11, 3, 8],
  [9, 14, 15, 5, 2, 8, 12, 3, 7, 0, 4, 10, 1, 13, 11, 6],
  [4, 3, 2, 12, 9, 5, 15, 10, 11, 14, 1, 7, 6, 0, 8, 13],
  [4, 11, 2, 14, 15, 0, 8, 13, 3, 12, 9, 7, 5, 10, 6, 1],
  [13, 0, 11, 7, 4, 9, 1, 10, 14, 3, 5, 12, 2, 15, 8, 6],
  [1, 4, 11, 13, 12, 3, 7, 14, 10, 15, 6, 8, 0, 5, 9, 2],
  [6, 11, 13, 8, 1, 4, 10, 7, 9, 5, 0, 15, 14, 2, 3, 12],
  [13, 2, 8, 4, 6, 15, 11, 1, 10, 9, 3, 14, 5, 0, 12, 7],
  [1, 15, 13, 8, 10, 3, 7, 4, 12, 5, 6, 11, 0, 14, 9, 2],
  [7, 11, 4, 1, 9, 12, 14, 2, 0, 6, 10, 13, 15, 3, 5, 8],
  [2, 1, 14, 7, 4, 10, 8, 13, 15, 12, 9, 0, 3, 5, 6, 11]]
theorem row_ok (w : World) {x n : Nat} (hx : x < 8) (hn : n < 4) :
    VC Tryd.prog 55 [.int .i64 (x : Int), .int .i64 (n : Int)] w (fun v w' => v = .agg ((sboxL.getD (4 * x + n) []).map vb).toArray ∧ Keep No w w') := by
  refine VC.of tt_ok Tryd.func55 rfl (by decide +kernel) (Nat.le_of_ble_eq_true rfl) ?_; (conv => whnf)
  refine ⟨fun w1 hb kp => ?_⟩; have hb_lt := Blk.lt hb; have kp_sz := kp.size; (conv => whnf)
  refine VRes.i64 (by omega) ?_; (conv => whnf)
  refine VRes.i64 (by omega) ?_; (conv => whnf)
  refine VCmp.mk (fun h => ?_) (fun h => ?_) <;> (conv => whnf)
  · refine VFill.by_ rfl ?_; (conv => whnf)
    (refine VReq.mk ⟨rfl, (fun u hu => List.all_eq_true.mp (show List.all _ (fun u => u.oneCell') = true by rfl) u hu)⟩ ?_; (conv => whnf))
    refine VStore.all hb rfl ?_
    intro w2 hb2 hk2 hk2_sz
    have kp := kp.fresh_ hk2 (Nat.le_refl _)
    (conv => whnf)
    refine VLoads.blk hb2 rfl ?_
    (conv => whnf)
    rw [show 4 * x + n = 0 from by omega]
    exact ⟨rfl, kp⟩
  refine VCmp.mk (fun h => ?_) (fun h => ?_) <;> (conv => whnf)
  · refine VFill.by_ rfl ?_; (conv => whnf)
    (refine VReq.mk ⟨rfl, (fun u hu => List.all_eq_true.mp (show List.all _ (fun u => u.oneCell') = true by rfl) u hu)⟩ ?_; (conv => whnf))
    refine VStore.all hb rfl ?_
    intro w2 hb2 hk2 hk2_sz
    have kp := kp.fresh_ hk2 (Nat.le_refl _)
    (conv => whnf)
    refine VLoads.blk hb2 rfl ?_
    (conv => whnf)
    rw [show 4 * x + n = 1 from by omega]
    exact ⟨rfl, kp⟩
  refine VCmp.mk (fun h => ?_) (fun h => ?_) <;> (conv => whnf)
  · refine VFill.by_ rfl ?_; (conv => whnf)
    (refine VReq.mk ⟨rfl, (fun u hu => List.all_eq_true.mp (show List.all _ (fun u => u.oneCell') = true by rfl) u hu)⟩ ?_; (conv => whnf))
    refine VStore.all hb rfl ?_
    intro w2 hb2 hk2 hk2_sz
    have kp := kp.fresh_ hk2 (Nat.le_refl _)
    (conv => whnf)
    refine VLoads.blk hb2 rfl ?_
    (conv => whnf)
    rw [show 4 * x + n = 2 from by omega]
    exact ⟨rfl, kp⟩
  refine VCmp.mk (fun h => ?_) (fun h => ?_) <;> (conv => whnf)
  · refine VFill.by_ rfl ?_; (conv => whnf)
    (refine VReq.mk ⟨rfl, (fun u hu => List.all_eq_true.mp (show List.all _ (fun u => u.oneCell') = true by rfl) u hu)⟩ ?_; (conv => whnf))
    refine VStore.all hb rfl ?_
    intro w2 hb2 hk2 hk2_sz
    have kp := kp.fresh_ hk2 (Nat.le_refl _)
    (conv => whnf)
    refine VLoads.blk hb2 rfl ?_
    (conv => whnf)
    rw [show 4 * x + n = 3 from by omega]
    exact ⟨rfl, kp⟩
  refine VCmp.mk (fun h => ?_) (fun h => ?_) <;> (conv => whnf)
  · refine VFill.by_ rfl ?_; (conv => whnf)
    (refine VReq.mk ⟨rfl, (fun u hu => List.all_eq_true.mp (show List.all _ (fun u => u.oneCell') = true by rfl) u hu)⟩ ?_; (conv => whnf))
    refine VStore.all hb rfl ?_
    intro w2 hb2 hk2 hk2_sz
    have kp := kp.fresh_ hk2 (Nat.le_refl _)
    (conv => whnf)
    refine VLoads.blk hb2 rfl ?_
    (conv => whnf)
    rw [show 4 * x + n = 4 from by omega]
    exact ⟨rfl, kp⟩
  refine VCmp.mk (fun h => ?_) (fun h => ?_) <;> (conv => whnf)
  · refine VFill.by_ rfl ?_; (conv => whnf)
    (refine VReq.mk ⟨rfl, (fun u hu => List.all_eq_true.mp (show List.all _ (fun u => u.oneCell') = true by rfl) u hu)⟩ ?_; (conv => whnf))
    refine VStore.all hb rfl ?_
    intro w2 hb2 hk2 hk2_sz
    have kp := kp.fresh_ hk2 (Nat.le_refl _)
    (conv => whnf)
    refine VLoads.blk hb2 rfl ?_
    (conv => whnf)
    rw [show 4 * x + n = 5 from by omega]
    exact ⟨rfl, kp⟩
  refine VCmp.mk (fun h => ?_) (fun h => ?_) <;> (conv => whnf)
  · refine VFill.by_ rfl ?_; (conv => whnf)
    (refine VReq.mk ⟨rfl, (fun u hu => List.all_eq_true.mp (show List.all _ (fun u => u.oneCell') = true by rfl) u hu)⟩ ?_; (conv => whnf))
    refine VStore.all hb rfl ?_
    intro w2 hb2 hk2 hk2_sz
    have kp := kp.fresh_ hk2 (Nat.le_refl _)
    (conv => whnf)
    refine VLoads.blk hb2 rfl ?_
    (conv => whnf)
    rw [show 4 * x + n = 6 from by omega]
    exact ⟨rfl, kp⟩
  refine VCmp.mk (fun h => ?_) (fun h => ?_) <;> (conv => whnf)
  · refine VFill.by_ rfl ?_; (conv => whnf)
    (refine VReq.mk ⟨rfl, (fun u hu => List.all_eq_true.mp (show List.all _ (fun u => u.oneCell') = true by rfl) u hu)⟩ ?_; (conv => whnf))
    refine VStore.all hb rfl ?_
    intro w2 hb2 hk2 hk2_sz
    have kp := kp.fresh_ hk2 (Nat.le_refl _)
    (conv => whnf)
    refine VLoads.blk hb2 rfl ?_
    (conv => whnf)
    rw [show 4 * x + n = 7 from by omega]
    exact ⟨rfl, kp⟩
  refine VCmp.mk (fun h => ?_) (fun h => ?_) <;> (conv => whnf)
  · refine VFill.by_ rfl ?_; (conv => whnf)
    (refine VReq.mk ⟨rfl, (fun u hu => List.all_eq_true.mp (show List.all _ (fun u => u.oneCell') = true by rfl) u hu)⟩ ?_; (conv => whnf))
    refine VStore.all hb rfl ?_
    intro w2 hb2 hk2 hk2_sz
    have kp := kp.fresh_ hk2 (Nat.le_refl _)
    (conv => whnf)
    refine VLoads.blk hb2 rfl ?_
    (conv => whnf)
    rw [show 4 * x + n = 8 from by omega]
    exact ⟨rfl, kp⟩
  refine VCmp.mk (fun h => ?_) (fun h => ?_) <;> (conv => whnf)
  · refine VFill.by_ rfl ?_; (conv => whnf)
    (refine VReq.mk ⟨rfl, (fun u hu => List.all_eq_true.mp (show List.all _ (fun u => u.oneCell') = true by rfl) u hu)⟩ ?_; (conv => whnf))
    refine VStore.all hb rfl ?_
    intro w2 hb2 hk2 hk2_sz
    have kp := kp.fresh_ hk2 (Nat.le_refl _)
    (conv => whnf)
    refine VLoads.blk hb2 rfl ?_
    (conv => whnf)
    rw [show 4 * x + n = 9 from by omega]
    exact ⟨rfl, kp⟩
  refine VCmp.mk (fun h => ?_) (fun h => ?_) <;> (conv => whnf)
  · refine VFill.by_ rfl ?_; (conv => whnf)
    (refine VReq.mk ⟨rfl, (fun u hu => List.all_eq_true.mp (show List.all _ (fun u => u.oneCell') = true by rfl) u hu)⟩ ?_; (conv => whnf))
    refine VStore.all hb rfl ?_
    intro w2 hb2 hk2 hk2_sz
    have kp := kp.fresh_ hk2 (Nat.le_refl _)
    (conv => whnf)
    refine VLoads.blk hb2 rfl ?_
    (conv => whnf)
    rw [show 4 * x + n = 10 from by omega]
    exact ⟨rfl, kp⟩
  refine VCmp.mk (fun h => ?_) (fun h => ?_) <;> (conv => whnf)
  · refine VFill.by_ rfl ?_; (conv => whnf)
    (refine VReq.mk ⟨rfl, (fun u hu => List.all_eq_true.mp (show List.all _ (fun u => u.oneCell') = true by rfl) u hu)⟩ ?_; (conv => whnf))
    refine VStore.all hb rfl ?_
    intro w2 hb2 hk2 hk2_sz
    have kp := kp.fresh_ hk2 (Nat.le_refl _)
    (conv => whnf)
    refine VLoads.blk hb2 rfl ?_
    (conv => whnf)
    rw [show 4 * x + n = 11 from by omega]
    exact ⟨rfl, kp⟩
  refine VCmp.mk (fun h => ?_) (fun h => ?_) <;> (conv => whnf)
  · refine VFill.by_ rfl ?_; (conv => whnf)
    (refine VReq.mk ⟨rfl, (fun u hu => List.all_eq_true.mp (show List.all _ (fun u => u.oneCell') = true by rfl) u hu)⟩ ?_; (conv => whnf))
    refine VStore.all hb rfl ?_
    intro w2 hb2 hk2 hk2_sz
    have kp := kp.fresh_ hk2 (Nat.le_refl _)
    (conv => whnf)
    refine VLoads.blk hb2 rfl ?_
    (conv => whnf)
    rw [show 4 * x + n = 12 from by omega]
    exact ⟨rfl, kp⟩
  refine VCmp.mk (fun h => ?_) (fun h => ?_) <;> (conv => whnf)
  · refine VFill.by_ rfl ?_; (conv => whnf)
    (refine VReq.mk ⟨rfl, (fun u hu => List.all_eq_true.mp (show List.all _ (fun u => u.oneCell') = true by rfl) u hu)⟩ ?_; (conv => whnf))
    refine VStore.all hb rfl ?_
    intro w2 hb2 hk2 hk2_sz
    have kp := kp.fresh_ hk2 (Nat.le_refl _)
    (conv => whnf)
    refine VLoads.blk hb2 rfl ?_
    (conv => whnf)
    rw [show 4 * x + n = 13 from by omega]
    exact ⟨rfl, kp⟩
  refine VCmp.mk (fun h => ?_) (fun h => ?_) <;> (conv => whnf)
  · refine VFill.by_ rfl ?_; (conv => whnf)
    (refine VReq.mk ⟨rfl, (fun u hu => List.all_eq_true.mp (show List.all _ (fun u => u.oneCell') = true by rfl) u hu)⟩ ?_; (conv => whnf))
    refine VStore.all hb rfl ?_
    intro w2 hb2 hk2 hk2_sz
    have kp := kp.fresh_ hk2 (Nat.le_refl _)
    (conv => whnf)
    refine VLoads.blk hb2 rfl ?_
    (conv => whnf)
    rw [show 4 * x + n = 14 from by omega]
    exact ⟨rfl, kp⟩
  refine VCmp.mk (fun h => ?_) (fun h => ?_) <;> (conv => whnf)
  · refine VFill.by_ rfl ?_; (conv => whnf)
    (refine VReq.mk ⟨rfl, (fun u hu => List.all_eq_true.mp (show List.all _ (fun u => u.oneCell') = true by rfl) u hu)⟩ ?_; (conv => whnf))
    refine VStore.all hb rfl ?_
    intro w2 hb2 hk2 hk2_sz
    have kp := kp.fresh_ hk2 (Nat.le_refl _)
    (conv => whnf)
    refine VLoads.blk hb2 rfl ?_
    (conv => whnf)
    rw [show 4 * x + n = 15 from by omega]
    exact ⟨rfl, kp⟩
  refine VCmp.mk (fun h => ?_) (fun h => ?_) <;> (conv => whnf)
  · refine VFill.by_ rfl ?_; (conv => whnf)
    (refine VReq.mk ⟨rfl, (fun u hu => List.all_eq_true.mp (show List.all _ (fun u => u.oneCell') = true by rfl) u hu)⟩ ?_; (conv => whnf))
    refine VStore.all hb rfl ?_
    intro w2 hb2 hk2 hk2_sz
    have kp := kp.fresh_ hk2 (Nat.le_refl _)
    (conv => whnf)
    refine VLoads.blk hb2 rfl ?_
    (conv => whnf)
    rw [show 4 * x + n = 16 from by omega]
    exact ⟨rfl, kp⟩
  refine VCmp.mk (fun h => ?_) (fun h => ?_) <;> (conv => whnf)
  · refine VFill.by_ rfl ?_; (conv => whnf)
    (refine VReq.mk ⟨rfl, (fun u hu => List.all_eq_true.mp (show List.all _ (fun u => u.oneCell') = true by rfl) u hu)⟩ ?_; (conv => whnf))
    refine VStore.all hb rfl ?_
    intro w2 hb2 hk2 hk2_sz
    have kp := kp.fresh_ hk2 (Nat.le_refl _)
    (conv => whnf)
    refine VLoads.blk hb2 rfl ?_
    (conv => whnf)
    rw [show 4 * x + n = 17 from by omega]
    exact ⟨rfl, kp⟩
  refine VCmp.mk (fun h => ?_) (fun h => ?_) <;> (conv => whnf)
  · refine VFill.by_ rfl ?_; (conv => whnf)
    (refine VReq.mk ⟨rfl, (fun u hu => List.all_eq_true.mp (show List.all _ (fun u => u.oneCell') = true by rfl) u hu)⟩ ?_; (conv => whnf))
    refine VStore.all hb rfl ?_
    intro w2 hb2 hk2 hk2_sz
    have kp := kp.fresh_ hk2 (Nat.le_refl _)
    (conv => whnf)
    refine VLoads.blk hb2 rfl ?_
    (conv => whnf)
    rw [show 4 * x + n = 18 from by omega]
    exact ⟨rfl, kp⟩
  refine VCmp.mk (fun h => ?_) (fun h => ?_) <;> (conv => whnf)
  · refine VFill.by_ rfl ?_; (conv => whnf)
    (refine VReq.mk ⟨rfl, (fun u hu => List.all_eq_true.mp (show List.all _ (fun u => u.oneCell') = true by rfl) u hu)⟩ ?_; (conv => whnf))
    refine VStore.all hb rfl ?_
    intro w2 hb2 hk2 hk2_sz
    have kp := kp.fresh_ hk2 (Nat.le_refl _)
    (conv => whnf)
    refine VLoads.blk hb2 rfl ?_
    (conv => whnf)
    rw [show 4 * x + n = 19 from by omega]
    exact ⟨rfl, kp⟩
  refine VCmp.mk (fun h => ?_) (fun h => ?_) <;> (conv => whnf)
  · refine VFill.by_ rfl ?_; (conv => whnf)
    (refine VReq.mk ⟨rfl, (fun u hu => List.all_eq_true.mp (show List.all _ (fun u => u.oneCell') = true by rfl) u hu)⟩ ?_; (conv => whnf))
    refine VStore.all hb rfl ?_
    intro w2 hb2 hk2 hk2_sz
    have kp := kp.fresh_ hk2 (Nat.le_refl _)
    (conv => whnf)
    refine VLoads.blk hb2 rfl ?_
    (conv => whnf)
    rw [show 4 * x + n = 20 from by omega]
    exact ⟨rfl, kp⟩
  refine VCmp.mk (fun h => ?_) (fun h => ?_) <;> (conv => whnf)
  · refine VFill.by_ rfl ?_; (conv => whnf)
    (refine VReq.mk ⟨rfl, (fun u hu => List.all_eq_true.mp (show List.all _ (fun u => u.oneCell') = true by rfl) u hu)⟩ ?_; (conv => whnf))
    refine VStore.all hb rfl ?_
    intro w2 hb2 hk2 hk2_sz
    have kp := kp.fresh_ hk2 (Nat.le_refl _)
    (conv => whnf)
    refine VLoads.blk hb2 rfl ?_
    (conv => whnf)
    rw [show 4 * x + n = 21 from by omega]
    exact ⟨rfl, kp⟩
  refine VCmp.mk (fun h => ?_) (fun h => ?_) <;> (conv => whnf)
  · refine VFill.by_ rfl ?_; (conv => whnf)
    (refine VReq.mk ⟨rfl, (fun u hu => List.all_eq_true.mp (show List.all _ (fun u => u.oneCell') = true by rfl) u hu)⟩ ?_; (conv => whnf))
    refine VStore.all hb rfl ?_
    intro w2 hb2 hk2 hk2_sz
    have kp := kp.fresh_ hk2 (Nat.le_refl _)
    (conv => whnf)
    refine VLoads.blk hb2 rfl ?_
    (conv => whnf)
    rw [show 4 * x + n = 22 from by omega]
    exact ⟨rfl, kp⟩
  refine VCmp.mk (fun h => ?_) (fun h => ?_) <;> (conv => whnf)
  · refine VFill.by_ rfl ?_; (conv => whnf)
    (refine VReq.mk ⟨rfl, (fun u hu => List.all_eq_true.mp (show List.all _ (fun u => u.oneCell') = true by rfl) u hu)⟩ ?_; (conv => whnf))
    refine VStore.all hb rfl ?_
    intro w2 hb2 hk2 hk2_sz
    have kp := kp.fresh_ hk2 (Nat.le_refl _)
    (conv => whnf)
    refine VLoads.blk hb2 rfl ?_
    (conv => whnf)
    rw [show 4 * x + n = 23 from by omega]
    exact ⟨rfl, kp⟩
  refine VCmp.mk (fun h => ?_) (fun h => ?_) <;> (conv => whnf)
  · refine VFill.by_ rfl ?_; (conv => whnf)
    (refine VReq.mk ⟨rfl, (fun u hu => List.all_eq_true.mp (show List.all _ (fun u => u.oneCell') = true by rfl) u hu)⟩ ?_; (conv => whnf))
    refine VStore.all hb rfl ?_
    intro w2 hb2 hk2 hk2_sz
    have kp := kp.fresh_ hk2 (Nat.le_refl _)
    (conv => whnf)
    refine VLoads.blk hb2 rfl ?_
    (conv => whnf)
    rw [show 4 * x + n = 24 from by omega]
    exact ⟨rfl, kp⟩
  refine VCmp.mk (fun h => ?_) (fun h => ?_) <;> (conv => whnf)
  · refine VFill.by_ rfl ?_; (conv => whnf)
    (refine VReq.mk ⟨rfl, (fun u hu => List.all_eq_true.mp (show List.all _ (fun u => u.oneCell') = true by rfl) u hu)⟩ ?_; (conv => whnf))
    refine VStore.all hb rfl ?_
    intro w2 hb2 hk2 hk2_sz
    have kp := kp.fresh_ hk2 (Nat.le_refl _)
    (conv => whnf)
    refine VLoads.blk hb2 rfl ?_
    (conv => whnf)
    rw [show 4 * x + n = 25 from by omega]
    exact ⟨rfl, kp⟩
  refine VCmp.mk (fun h => ?_) (fun h => ?_) <;> (conv => whnf)
  · refine VFill.by_ rfl ?_; (conv => whnf)
    (refine VReq.mk ⟨rfl, (fun u hu => List.all_eq_true.mp (show List.all _ (fun u => u.oneCell') = true by rfl) u hu)⟩ ?_; (conv => whnf))
    refine VStore.all hb rfl ?_
    intro w2 hb2 hk2 hk2_sz
    have kp := kp.fresh_ hk2 (Nat.le_refl _)
    (conv => whnf)
    refine VLoads.blk hb2 rfl ?_
    (conv => whnf)
    rw [show 4 * x + n = 26 from by omega]
    exact ⟨rfl, kp⟩
  refine VCmp.mk (fun h => ?_) (fun h => ?_) <;> (conv => whnf)
  · refine VFill.by_ rfl ?_; (conv => whnf)
    (refine VReq.mk ⟨rfl, (fun u hu => List.all_eq_true.mp (show List.all _ (fun u => u.oneCell') = true by rfl) u hu)⟩ ?_; (conv => whnf))
    refine VStore.all hb rfl ?_
    intro w2 hb2 hk2 hk2_sz
    have kp := kp.fresh_ hk2 (Nat.le_refl _)
    (conv => whnf)
    refine VLoads.blk hb2 rfl ?_
    (conv => whnf)
    rw [show 4 * x + n = 27 from by omega]
    exact ⟨rfl, kp⟩
  refine VCmp.mk (fun h => ?_) (fun h => ?_) <;> (conv => whnf)
  · refine VFill.by_ rfl ?_; (conv => whnf)
    (refine VReq.mk ⟨rfl, (fun u hu => List.all_eq_true.mp (show List.all _ (fun u => u.oneCell') = true by rfl) u hu)⟩ ?_; (conv => whnf))
    refine VStore.all hb rfl ?_
    intro w2 hb2 hk2 hk2_sz
    have kp := kp.fresh_ hk2 (Nat.le_refl _)
    (conv => whnf)
    refine VLoads.blk hb2 rfl ?_
    (conv => whnf)
    rw [show 4 * x + n = 28 from by omega]
    exact ⟨rfl, kp⟩
  refine VCmp.mk (fun h => ?_) (fun h => ?_) <;> (conv => whnf)
  · refine VFill.by_ rfl ?_; (conv => whnf)
    (refine VReq.mk ⟨rfl, (fun u hu => List.all_eq_true.mp (show List.all _ (fun u => u.oneCell') = true by rfl) u hu)⟩ ?_; (conv => whnf))
    refine VStore.all hb rfl ?_
    intro w2 hb2 hk2 hk2_sz
    have kp := kp.fresh_ hk2 (Nat.le_refl _)
    (conv => whnf)
    refine VLoads.blk hb2 rfl ?_
    (conv => whnf)
    rw [show 4 * x + n = 29 from by omega]
    exact ⟨rfl, kp⟩
  refine VCmp.mk (fun h => ?_) (fun h => ?_) <;> (conv => whnf)
  · refine VFill.by_ rfl ?_; (conv => whnf)
    (refine VReq.mk ⟨rfl, (fun u hu => List.all_eq_true.mp (show List.all _ (fun u => u.oneCell') = true by rfl) u hu)⟩ ?_; (conv => whnf))
    refine VStore.all hb rfl ?_
    intro w2 hb2 hk2 hk2_sz
    have kp := kp.fresh_ hk2 (Nat.le_refl _)
    (conv => whnf)
    refine VLoads.blk hb2 rfl ?_
    (conv => whnf)
    rw [show 4 * x + n = 30 from by omega]
    exact ⟨rfl, kp⟩
  refine VFill.by_ rfl ?_; (conv => whnf)
  (refine VReq.mk ⟨rfl, (fun u hu => List.all_eq_true.mp (show List.all _ (fun u => u.oneCell') = true by rfl) u hu)⟩ ?_; (conv => whnf))
  refine VStore.all hb rfl ?_
  intro w2 hb2 hk2 hk2_sz
  have kp := kp.fresh_ hk2 (Nat.le_refl _)
  (conv => whnf)
  refine VLoads.blk hb2 rfl ?_
  (conv => whnf)
  rw [show 4 * x + n = 31 from by omega]
  exact ⟨rfl, kp⟩
end Go.Proofs.YtoeijgbjgbgelaaDoor
