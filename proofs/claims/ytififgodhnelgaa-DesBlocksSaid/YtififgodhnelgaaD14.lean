/-
  DES, the reference's: one block encrypted; it is the program's.
-/
import Derived.Test.YtififgodhnelgaaD13
import Derived.Test.YtififgodhnelgaaD9
namespace Go.Proofs.Ytififgodhnelgaa
open Go V

def ipL : List Nat := (List.range 64).map firstO
theorem ipL_at : ∀ i, i < 64 → ipL.getD i 0 = firstO i := by
  have h : ∀ i : Fin 64, ipL.getD i.val 0 = firstO i.val := by decide +kernel
  exact fun i hi => h ⟨i, hi⟩
theorem ipL_take (k : Nat) (hk : k < 64) : (List.range (k + 1)).map firstO = (List.range k).map firstO ++ [firstO k] := by
  rw [List.range_succ, List.map_append]; rfl
theorem putP_congr {l : List UInt8} {o p : Nat → Nat} {n : Nat} (h : ∀ i, i < n → o i = p i) : putP l o n = putP l p n :=
  List.map_congr_left fun i hi => by rw [h i (List.mem_range.1 hi)]
/-- The six bits of a box, as far as they are there. -/
def sixK (z : List UInt8) (i : Nat) : Nat → List Nat
  | 0 => List.replicate 6 0
  | j + 1 => (sixK z i j).set j (z.getD (6 * i + j) 0).toNat
theorem sixK_len (z : List UInt8) (i j : Nat) : (sixK z i j).length = 6 := by
  induction j with
  | zero => simp [sixK]
  | succ j ih => rw [sixK, List.length_set, ih]
theorem sixK_all (z : List UInt8) (i : Nat) : sixK z i 6 = [(z.getD (6 * i + 0) 0).toNat, (z.getD (6 * i + 1) 0).toNat, (z.getD (6 * i + 2) 0).toNat, (z.getD (6 * i + 3) 0).toNat, (z.getD (6 * i + 4) 0).toNat, (z.getD (6 * i + 5) 0).toNat] := rfl
theorem sixP_at (z : List UInt8) (i j : Nat) (hj : j < 6) : (sixP z i).getD j 0 = z.getD (6 * i + j) 0 := by
  unfold sixP
  rw [List.getD_eq_getElem?_getD, List.getD_eq_getElem?_getD, List.getElem?_drop, List.getElem?_take, if_pos (by omega)]
theorem nibP_four (v : UInt8) : nibP v = [nib8 v 0, nib8 v 1, nib8 v 2, nib8 v 3] := rfl
theorem nibP_eq (v : UInt8) : nibP v = [UInt8.ofNat (v.toNat / 2 ^ 3 % 2), UInt8.ofNat (v.toNat / 2 ^ 2 % 2), UInt8.ofNat (v.toNat / 2 ^ 1 % 2), UInt8.ofNat (v.toNat % 2)] := by rw [nibP_four]; simp [nib8]
/-- Eight bits as a number are their byte. -/
theorem numK_byte {B : List UInt8} (hB : bitsOnly B) (at_ : Nat) : UInt8.ofNat (numK true B at_ 8) = orB fun i => B.getD (at_ + i) 0 := by
  obtain ⟨c, hc⟩ := bits8 (fun i => B.getD (at_ + i) 0) (fun i _ => hB.at_ _)
  rw [orB_congr hc, orB_bit8]
  have e : numK true B at_ 8 = 2 * (2 * (2 * (2 * (2 * (2 * (2 * (2 * 0 + (bit8 c 0).toNat) + (bit8 c 1).toNat) + (bit8 c 2).toNat) + (bit8 c 3).toNat) + (bit8 c 4).toNat) + (bit8 c 5).toNat) + (bit8 c 6).toNat) + (bit8 c 7).toNat := by
    rw [← hc 0 (by omega), ← hc 1 (by omega), ← hc 2 (by omega), ← hc 3 (by omega), ← hc 4 (by omega), ← hc 5 (by omega), ← hc 6 (by omega), ← hc 7 (by omega)]
    rfl
  rw [e]
  have := all_bytes (p := fun c => UInt8.ofNat (2 * (2 * (2 * (2 * (2 * (2 * (2 * (2 * 0 + (bit8 c 0).toNat) + (bit8 c 1).toNat) + (bit8 c 2).toNat) + (bit8 c 3).toNat) + (bit8 c 4).toNat) + (bit8 c 5).toNat) + (bit8 c 6).toNat) + (bit8 c 7).toNat) == c) (by decide +kernel) c
  simpa using this
theorem bytesR_bytesP {B : List UInt8} (hB : bitsOnly B) (h : B.length = 64) : bytesR true B 0 8 = bytesP B := by
  rw [bytesP_form h]
  refine List.map_congr_left fun j _ => ?_
  rw [numK_byte hB, Nat.zero_add]

set_option maxHeartbeats 4000000 in
theorem refDes_ok (w : World) {A B : Option Addr} {n m c d : Nat} {key x : List UInt8} (hs : Sl w 1 A n (key.map vb)) (hx : Sl w 1 B m (x.map vb)) (hn : n ≤ 1000) (hm : m ≤ 1000) :
    VC Try.prog 29 [.slice A n c, .slice B m d] w (fun v w' => (if n = 7 ∧ m = 8 then ∃ A' c', v = .tuple #[.slice A' 8 c', .int .i64 0] ∧ Sl w' 1 A' 8 ((desP key x).map vb) else v = .tuple #[.slice none 0 0, .int .i64 1]) ∧ Keep No w w') := by
  have hkl : key.length = n := by simpa using hs.len
  have hxl : x.length = m := by simpa using hx.len
  refine VC.of tt_ok Try.func29 rfl (by decide +kernel) (Nat.le_of_ble_eq_true rfl) ?_; (conv => whnf)
  refine VCmp.mk (fun h => ?_) (fun h => ?_) <;> (conv => whnf)
  · rw [if_neg (by omega)]
    exact ⟨rfl, Keep.refl _ _⟩
  refine VCmp.mk (fun h2 => ?_) (fun h2 => ?_) <;> (conv => whnf)
  · rw [if_neg (by omega)]
    exact ⟨rfl, Keep.refl _ _⟩
  obtain rfl : n = 7 := by omega
  obtain rfl : m = 8 := by omega
  refine (refBits_ok w hs (by omega)).mono ?_
  rintro v w1 ⟨⟨A1, c1, rfl, ho1⟩, kp⟩
  have hkb := Sl.ofOwn ho1
  have hx := hx.keepNo kp
  (conv => whnf)
  refine (half_ok w1 false).mono ?_
  rintro v w2 ⟨⟨A2, c2, rfl, hl2⟩, k2⟩
  have kp := kp.keepNo k2; have hkb := hkb.keepNo k2; have hx := hx.keepNo k2
  (conv => whnf)
  refine (pick_ok w2 hkb hl2 (by omega) (by omega) (fun i hi => ?_)).mono ?_
  · have := left_range i hi
    have e : (halfK false 28).getD i 0 = withoutO leftL i := by
      unfold halfK
      rw [List.getD_eq_getElem?_getD, List.getElem?_map, List.getElem?_range hi]; rfl
    omega
  rintro v w3 ⟨⟨A3, c3, rfl, ho3⟩, k3⟩
  have hC := Sl.ofOwn ho3
  have hcc := ho3.le
  have kp := kp.keepNo k3; have hx := hx.keepNo k3
  (conv => whnf)
  refine (refBits_ok w3 (hs.keepNo kp) (by omega)).mono ?_
  rintro v w4 ⟨⟨A4, c4, rfl, ho4⟩, k4⟩
  have hkb := Sl.ofOwn ho4
  have kp := kp.keepNo k4; have hx := hx.keepNo k4; have hC := hC.keepNo k4
  (conv => whnf)
  refine (half_ok w4 true).mono ?_
  rintro v w5 ⟨⟨A5, c5, rfl, hl5⟩, k5⟩
  have kp := kp.keepNo k5; have hkb := hkb.keepNo k5; have hx := hx.keepNo k5; have hC := hC.keepNo k5
  (conv => whnf)
  refine (pick_ok w5 hkb hl5 (by omega) (by omega) (fun i hi => ?_)).mono ?_
  · have := right_range i hi
    have e : (halfK true 28).getD i 0 = withoutO rightL i := by
      unfold halfK
      rw [List.getD_eq_getElem?_getD, List.getElem?_map, List.getElem?_range hi]; rfl
    omega
  rintro v w6 ⟨⟨A6, c6, rfl, ho6⟩, k6⟩
  have hD := Sl.ofOwn ho6
  have hcd := ho6.le
  have kp := kp.keepNo k6; have hx := hx.keepNo k6; have hC := hC.keepNo k6
  have hC : Sl w6 1 A3 28 ((cdP key 0).1.map vb) := by
    rw [putP_congr (p := withoutO leftL) (fun i hi => by
      unfold halfK
      rw [List.getD_eq_getElem?_getD, List.getElem?_map, List.getElem?_range hi]; rfl)] at hC
    exact hC
  have hD : Sl w6 1 A6 28 ((cdP key 0).2.map vb) := by
    rw [putP_congr (p := withoutO rightL) (fun i hi => by
      unfold halfK
      rw [List.getD_eq_getElem?_getD, List.getElem?_map, List.getElem?_range hi]; rfl)] at hD
    exact hD
  (conv => whnf)
  refine VFill.by_ rfl ?_; (conv => whnf)
  refine ⟨fun w7 hb7 k7 => ?_⟩
  have kp := kp.keepNo k7; have hx := hx.keepNo k7; have hC := hC.keepNo k7; have hD := hD.keepNo k7
  have hb7_lt := Blk.lt hb7
  have h7 := Sl.ofBlk (n := 8) (size := 1) (xs := [58, 60, 62, 64, 57, 59, 61, 63].map nv) hb7 rfl
  (conv => whnf)
  refine VLoop.by_ tt_ok (S := Nat × Option Addr × Nat) (fun | (k, Al, cl) => [(1, .slice B 8 d), (6, .slice A3 28 c3), (7, .slice A6 28 c6), (8, .slice Al k cl), (9, .slice (some ⟨w6.heap.size, 0, none⟩) 8 8), (10, .int .i64 k)])
    (fun | (k, Al, cl) => fun w' => k ≤ 64 ∧ Own w' w7.heap.size TId 1 Al k cl (((List.range k).map firstO).map nv) ∧ Keep No w7 w') (fun | (k, _) => 64 - k)
    (0, none, 0) ⟨rfl, rfl, rfl, rfl, rfl, rfl, trivial⟩ ⟨by omega, Own.nil _ _ _ _, Keep.refl _ _⟩ ?_
  rintro ⟨k, Al, cl⟩ w' ⟨hk, hown, kk⟩
  (conv => whnf)
  refine VCmp.mk (fun h => ?_) (fun h => ?_) <;> (conv => whnf)
  · have h7' := h7.keepNo kk
    have q1 : (k : Int).tdiv 8 = ((k / 8 : Nat) : Int) := by rw [Int.tdiv_eq_ediv_of_nonneg (by omega)]; rfl
    have q2 : (k : Int).tmod 8 = ((k % 8 : Nat) : Int) := by rw [Int.tmod_eq_emod_of_nonneg (by omega)]; rfl
    have hf := firstO_all k (by omega)
    refine VReq.mk (by omega) ?_
    rw [q1]
    refine VRes.i64 (by omega) ?_; (conv => whnf)
    refine VIdx.nv h7' (k / 8) rfl (by omega) (fun b_ o_ hA_ hc_ => ?_)
    (conv => whnf)
    refine VLoad.by_ hc_ ?_
    (conv => whnf)
    refine VReq.mk (by omega) ?_
    refine VRes.to (congrArg (Value.int .i64) q2) ?_
    (conv => whnf)
    refine VRes.i64 (by omega) ?_; (conv => whnf)
    have e : (([58, 60, 62, 64, 57, 59, 61, 63].getD (k / 8) 0 : Nat) : Int) - 8 * ((k % 8 : Nat) : Int) = ((firstO k : Nat) : Int) := by unfold firstO; omega
    rw [e]
    refine VRes.i64 (by omega) ?_; (conv => whnf)
    refine VFill.by_ rfl ?_; (conv => whnf)
    refine ⟨fun w8 hb8 k8 => ?_⟩
    have kk := kk.trans k8
    (conv => whnf)
    refine VApp.own tt_ok (it := ty74) (ei := ty3) rfl rfl rfl (size := 1) rfl rfl (by omega) (hown.keepNo k8) (ys := [nv (firstO k)]) (Sl.ofBlk (n := 1) (size := 1) hb8 rfl) (nv_one [_]) (by show (k + 1) * 8 ≤ _; omega) (by omega) kk.size ?_
    intro A9 c9 w9 ho9 k9 hat
    have kk := kk.own (hown.keepNo k8) k9
    (conv => whnf)
    refine VRes.i64 (by omega) ?_; (conv => whnf)
    exact ⟨(k + 1, A9, c9), ⟨rfl, rfl, rfl, rfl, rfl, rfl, trivial⟩, ⟨by omega, by rw [ipL_take _ (by omega), List.map_append]; exact ho9, kk⟩, by dsimp only; omega⟩
  obtain rfl : k = 64 := by omega
  have hip : Sl w' 1 Al 64 (ipL.map nv) := Sl.ofOwn hown
  have kp := kp.keepNo kk; have hx := hx.keepNo kk; have hC := hC.keepNo kk; have hD := hD.keepNo kk
  refine (refBits_ok w' hx (by omega)).mono ?_
  rintro v w8 ⟨⟨A8, c8, rfl, ho8⟩, k8⟩
  have kp := kp.keepNo k8; have hC := hC.keepNo k8; have hD := hD.keepNo k8; have hip := hip.keepNo k8
  (conv => whnf)
  refine (pick_ok w8 (Sl.ofOwn ho8) hip (by omega) (by omega) (fun i hi => ?_)).mono ?_
  · rw [ipL_at i hi]; have := firstO_all i hi; omega
  rintro v w9 ⟨⟨A9, c9, rfl, ho9⟩, k9⟩
  have kp := kp.keepNo k9; have hC := hC.keepNo k9; have hD := hD.keepNo k9; have hip := hip.keepNo k9
  have hc9 := ho9.le
  have h9 := Sl.ofOwn ho9
  rw [putP_congr (p := firstO) (fun i hi => ipL_at i hi)] at h9
  (conv => whnf)
  refine VDraw.by_ tt_ok rfl (.take 0 (.take 1 (.take 2 (.take 3 (.take 4 (.take 5 .done)))))) (by decide +kernel) _ (fun x h1 h2 h3 h4 => Keep.ofHeap h1 h2 h3 h4) (fun wd hd kd => ?_)
  have kp := kp.keepNo kd; have hC := hC.keepNo kd; have hD := hD.keepNo kd; have hip := hip.keepNo kd; have h9 := h9.keepNo kd
  (conv => whnf)
  refine VCut.by_ 0 32 rfl rfl (by omega) (by omega) ?_
  intro A10 hA10
  have hL : Sl wd 1 A10 (32 - 0) ((roundsP key x 0).1.map vb) := Sl.cut8 h9 (l := 0) (h := 32) (by omega) (by omega) hc9 (A' := A10) hA10
  (conv => whnf)
  refine VReq.mk hc9 ?_
  refine VCut.by_ 32 64 rfl rfl (by omega) hc9 ?_
  intro A11 hA11
  have hR := Sl.cut8 h9 (l := 32) (h := 64) (by omega) (by omega) hc9 (A' := A11) hA11
  rw [show (putP (bitsP x) firstO 64).take 64 = putP (bitsP x) firstO 64 from List.take_of_length_le (by rw [putP_len]; omega)] at hR
  have hR : Sl wd 1 A11 (64 - 32) ((roundsP key x 0).2.map vb) := hR
  (conv => whnf)
  refine VFill.by_ rfl ?_; (conv => whnf)
  refine ⟨fun w12 hb12 k12 => ?_⟩
  have kp := kp.keepNo k12; have hC := hC.keepNo k12; have hD := hD.keepNo k12; have hip := hip.keepNo k12; have hL := hL.keepNo k12; have hR := hR.keepNo k12
  have hpc := Sl.ofBlk (n := 48) (size := 1) (xs := chosenL.map nv) hb12 rfl
  (conv => whnf)
  refine VFill.by_ rfl ?_; (conv => whnf)
  refine ⟨fun w13 hb13 k13 => ?_⟩
  have kp := kp.keepNo k13; have hC := hC.keepNo k13; have hD := hD.keepNo k13; have hip := hip.keepNo k13; have hL := hL.keepNo k13; have hR := hR.keepNo k13; have hpc := hpc.keepNo k13
  have hpp := Sl.ofBlk (n := 32) (size := 1) (xs := mixedL.map nv) hb13 rfl
  (conv => whnf)
  refine VLoop.by_ tt_ok (S := Nat × (Option Addr × Nat) × (Option Addr × Nat) × (Option Addr × Nat) × Option Addr × Nat) (fun | (k, (Ac, cc), (Ad, cd), (Al', cl'), Ar, cr) => [(6, .slice Ac 28 cc), (7, .slice Ad 28 cd), (8, .slice Al 64 cl), (12, .slice Al' 32 cl'), (13, .slice Ar 32 cr), (14, .slice (some ⟨wd.heap.size, 0, none⟩) 48 48), (15, .slice (some ⟨w12.heap.size, 0, none⟩) 32 32), (16, .int .i64 ((k + 1 : Nat) : Int))])
    (fun | (k, (Ac, cc), (Ad, cd), (Al', cl'), Ar, cr) => fun w' => k ≤ 16 ∧ Sl w' 1 Ac 28 ((cdP key k).1.map vb) ∧ 28 ≤ cc ∧ Sl w' 1 Ad 28 ((cdP key k).2.map vb) ∧ 28 ≤ cd ∧ Sl w' 1 Al' 32 ((roundsP key x k).1.map vb) ∧ Sl w' 1 Ar 32 ((roundsP key x k).2.map vb) ∧ Keep No w13 w') (fun | (k, _) => 16 - k)
    (0, (A3, c3), (A6, c6), (A10, c9 - 0), A11, c9 - 32) ⟨rfl, rfl, rfl, rfl, rfl, rfl, rfl, rfl, trivial⟩ ⟨by omega, hC, hcc, hD, hcd, hL, hR, Keep.refl _ _⟩ ?_
  clear hC hD hL hR
  rintro ⟨k, ⟨Ac, cc⟩, ⟨Ad, cd⟩, ⟨Al', cl'⟩, Ar, cr⟩ w' ⟨hk, hC, hcc, hD, hcd, hL, hR, kk⟩
  have hip := hip.keepNo kk
  have hpc := hpc.keepNo kk
  have hpp := hpp.keepNo kk
  (conv => whnf)
  refine VCmp.mk (fun h => ?_) (fun h => ?_) <;> (conv => whnf)
  rotate_left 1
  · obtain rfl : k = 16 := by omega
    have kp := kp.trans kk
    refine (copy_ok w' hR (by omega)).mono ?_
    rintro v w14 ⟨A14, c14, rfl, ho14, k14⟩
    have hL := hL.keepNo k14
    (conv => whnf)
    refine appBd (w0 := w') k14 ho14 hL (by omega) ?_
    intro A15 c15 w15 ho15 k15 k15b
    have kp := kp.trans k15
    have hip := hip.keepNo k15
    obtain ⟨both, hbo⟩ : ∃ both, both = (roundsP key x 16).2 ++ (roundsP key x 16).1 := ⟨_, rfl⟩
    have hsb : Sl w15 1 A15 (32 + 32) (both.map vb) := by rw [hbo]; exact Sl.ofOwn ho15
    (conv => whnf)
    refine VMake.row_ (n := 64) (z := vb 0) (bytes := 1) Try.underlying22 (by kernel_rfl) rfl (by omega) (by omega) ?_
    intro w16 hq k16
    have hq : Blk w16 w15.heap.size T8 ((backK both 0).map vb) := by rw [backK, List.map_replicate]; exact hq
    have hq_lt := Blk.lt hq
    (conv => whnf)
    refine VFill.by_ rfl ?_; (conv => whnf)
    refine ⟨fun w17 hb17 k17 => ?_⟩
    have hq := hq.keepNo k17
    (conv => whnf)
    refine VLoop.by_ tt_ok (S := Nat) (fun j => [(8, .slice Al 64 cl), (27, .slice A15 64 c15), (28, .pointer (some ⟨w16.heap.size, 0, none⟩)), (29, .int .i64 j)])
      (fun j w' => j ≤ 64 ∧ Blk w' w15.heap.size T8 ((backK both j).map vb) ∧ Blk w' w16.heap.size TBits [.slice (some ⟨w15.heap.size, 0, none⟩) 64 64, .int .i64 0, .bool true] ∧ Keep No w15 w') (fun j => 64 - j) 0
      ⟨rfl, rfl, rfl, rfl, trivial⟩ ⟨by omega, hq, hb17, k16.trans k17⟩ ?_
    rintro j wj ⟨hj, hq, hbb, kj⟩
    have hlt := Blk.lt hq
    (conv => whnf)
    refine VCmp.mk (fun h => ?_) (fun h => ?_) <;> (conv => whnf)
    rotate_left 1
    · obtain rfl : j = 64 := by omega
      have hbl := backK_len both 64
      have hbits : bitsOnly (backK both 64) := by rw [hbo]; exact backK_bit (both_bit key x)
      have hbv : BitsV wj w16.heap.size (some ⟨w15.heap.size, 0, none⟩) 64 (backK both 64) 0 true := ⟨by rw [hbl]; exact hbb, by rw [hbl]; exact Sl.ofBlk (n := 64) (size := 1) hq (by rw [List.length_map, hbl])⟩
      refine (bitsOut_ok wj (n := 8) hbv hbits (by rw [hbl]) (by omega)).mono ?_
      rintro v w18 ⟨⟨A18, c18, rfl, ho18⟩, k18⟩
      (conv => whnf)
      rw [if_pos ⟨rfl, rfl⟩]
      refine ⟨⟨A18, c18, rfl, ?_⟩, (kp.trans kj).trans k18⟩
      have := Sl.ofOwn ho18
      rw [bytesR_bytesP hbits hbl, hbo] at this
      exact this
    have hsb' := hsb.keepNo kj
    have hip' := hip.keepNo kj
    have hfr := firstO_all j (by omega)
    have hbl := backK_len both j
    have hipj := ipL_at j (by omega)
    refine VDraw.by_ tt_ok rfl (.take 0 (.take 1 (.take 2 (.take 3 (.take 4 (.take 5 (.take 6 (.take 7 (.take 8 (.take 9 (.take 10 (.take 11 (.take 12 (.take 13 (.one 14 .done))))))))))))))) (by decide +kernel) _ (fun x h1 h2 h3 h4 => Keep.ofHeap h1 h2 h3 h4) (fun wd hd kd => ?_)
    have kj := kj.trans kd
    have hq := hq.keepNo kd
    have hbb' := hbb.keepNo kd
    (conv => whnf)
    refine VLoad.keep (hbb.cell 0) ?_
    (conv => whnf)
    refine VIdx.nv hip' j rfl (by omega) (fun b_ o_ hA_ hc_ => ?_)
    (conv => whnf)
    refine VLoad.keep hc_ ?_
    rw [hipj]
    (conv => whnf)
    refine VRes.i64 (by omega) ?_; (conv => whnf)
    refine VIdx.sl (hsb') (j) (by first | rfl | omega) (by omega) (fun b_ o_ hA_ hc_ => ?_); (conv => whnf); refine VLoad.keep hc_ ?_; (conv => whnf)
    refine VIdx.one (firstO j - 1) (by omega) (by omega) rfl ?_
    (conv => whnf)
    refine VStore.one hq (by rw [List.length_map, hbl]; omega) ?_
    intro w18 hq18 k18 _
    have kj := kj.fresh_ k18 (Nat.le_refl _)
    have hbb' := hbb'.keep k18 (by omega)
    (conv => whnf)
    refine VOwe.to (fun _ => True) (fun h => absurd h (by decide +kernel)) trivial ?_; (conv => whnf)
    refine VRes.i64 (by omega) ?_; (conv => whnf)
    exact ⟨j + 1, ⟨rfl, rfl, rfl, rfl, trivial⟩, ⟨by omega, by rw [backK, List.map_set]; simpa using hq18, hbb', kj⟩, by omega⟩
  obtain ⟨z, hz⟩ : ∃ z, z = xorP (putP (roundsP key x k).2 wideO 48) (keyP key (k + 1)) 48 := ⟨_, rfl⟩
  have hzb : bitsOnly z := by rw [hz]; exact xorP_bit (putP_bit (rounds_bit key x k).2 _ _) (keyP_bit _ _) _
  have hzat : ∀ i j, i < 8 → j < 6 → z.getD (6 * i + j) 0 = (roundsP key x k).2.getD ((4 * i + j + 31) % 32) 0 ^^^ (keyP key (k + 1)).getD (6 * i + j) 0 := by
    intro i j hi hj
    rw [hz]
    unfold xorP
    rw [List.getD_eq_getElem?_getD, List.getElem?_map, List.getElem?_range (by omega), Option.map_some, Option.getD_some]
    congr 1
    unfold putP
    rw [List.getD_eq_getElem?_getD, List.getElem?_map, List.getElem?_range (by omega), Option.map_some, Option.getD_some]
    congr 1
    unfold wideO
    omega
  refine VCmp.mk (fun hr => ?_) (fun hr0 => ?_) <;> (conv => whnf)
  · have hsh : shiftP (k + 1) = 1 := by unfold shiftP; rw [if_pos (by omega)]
    refine (turn_ok w' (k := 1) hC hcc (by omega) (by omega)).mono ?_
    rintro v w1 ⟨⟨A1, c1, rfl, ho1⟩, k1⟩
    have hC := Sl.ofOwn ho1
    have hcc := ho1.le
    have kk := kk.keepNo k1; have hD := hD.keepNo k1; have hL := hL.keepNo k1; have hR := hR.keepNo k1; have hip := hip.keepNo k1; have hpc := hpc.keepNo k1; have hpp := hpp.keepNo k1
    (conv => whnf)
    refine (turn_ok w1 (k := 1) hD hcd (by omega) (by omega)).mono ?_
    rintro v w2 ⟨⟨A2, c2, rfl, ho2⟩, k2⟩
    have hD := Sl.ofOwn ho2
    have hcd := ho2.le
    have kk := kk.keepNo k2; have hC := hC.keepNo k2; have hL := hL.keepNo k2; have hR := hR.keepNo k2; have hip := hip.keepNo k2; have hpc := hpc.keepNo k2; have hpp := hpp.keepNo k2
    have hC : Sl w2 1 A1 28 ((cdP key (k + 1)).1.map vb) := by
      rw [show (cdP key (k + 1)).1 = turnP (cdP key k).1 1 from by show turnP _ (shiftP (k + 1)) = _; rw [hsh]]; exact hC
    have hD : Sl w2 1 A2 28 ((cdP key (k + 1)).2.map vb) := by
      rw [show (cdP key (k + 1)).2 = turnP (cdP key k).2 1 from by show turnP _ (shiftP (k + 1)) = _; rw [hsh]]; exact hD
    (conv => whnf)
    refine (copy_ok w2 hC (by omega)).mono ?_
    rintro v w3 ⟨A3, c3, rfl, ho3, k3⟩
    (conv => whnf)
    refine appBd (w0 := w2) k3 ho3 (hD.keepNo k3) (by omega) ?_
    intro A4 c4 w4 ho4 k4 _
    have kk := kk.keepNo k4; have hC := hC.keepNo k4; have hD := hD.keepNo k4; have hL := hL.keepNo k4; have hR := hR.keepNo k4; have hip := hip.keepNo k4; have hpc := hpc.keepNo k4; have hpp := hpp.keepNo k4
    (conv => whnf)
    refine (pick_ok w4 (Sl.ofOwn ho4) hpc (by omega) (by omega) (fun i hi => chosen_range i hi)).mono ?_
    rintro v w5 ⟨⟨A5, c5, rfl, ho5⟩, k5⟩
    have kk := kk.keepNo k5; have hC := hC.keepNo k5; have hD := hD.keepNo k5; have hL := hL.keepNo k5; have hR := hR.keepNo k5; have hip := hip.keepNo k5; have hpc := hpc.keepNo k5; have hpp := hpp.keepNo k5
    have hK : Sl w5 1 A5 48 ((keyP key (k + 1)).map vb) := Sl.ofOwn ho5
    (conv => whnf)
    refine VLoop.by_ tt_ok (S := Nat × Option Addr × Nat) (fun | (i, Ao, co) => [(6, .slice A1 28 c1), (7, .slice A2 28 c2), (8, .slice Al 64 cl), (12, .slice Al' 32 cl'), (13, .slice Ar 32 cr), (14, .slice (some ⟨wd.heap.size, 0, none⟩) 48 48), (15, .slice (some ⟨w12.heap.size, 0, none⟩) 32 32), (16, .int .i64 ((k + 1 : Nat) : Int)), (18, .slice A5 48 c5), (19, .slice Ao (4 * i) co), (20, .int .i64 i)])
      (fun | (i, Ao, co) => fun w' => i ≤ 8 ∧ Own w' w5.heap.size T8 1 Ao (4 * i) co ((boxK z i).map vb) ∧ Keep No w5 w') (fun | (i, _) => 8 - i)
      (0, none, 0) ⟨rfl, rfl, rfl, rfl, rfl, rfl, rfl, rfl, rfl, rfl, rfl, trivial⟩ ⟨by omega, Own.nil _ _ _ _, Keep.refl _ _⟩ ?_
    rintro ⟨i, Ao, co⟩ wi ⟨hi, hown, ki⟩
    (conv => whnf)
    refine VCmp.mk (fun h => ?_) (fun h => ?_) <;> (conv => whnf)
    rotate_left 1
    · obtain rfl : i = 8 := by omega
      have kk := kk.keepNo ki; have hC := hC.keepNo ki; have hD := hD.keepNo ki; have hL := hL.keepNo ki; have hR := hR.keepNo ki; have hip := hip.keepNo ki; have hpc := hpc.keepNo ki; have hpp := hpp.keepNo ki
      refine (pick_ok wi (m := 4 * 8) (Sl.ofOwn hown) hpp (by omega) (by omega) (fun i hi => mixed_range i hi)).mono ?_
      rintro v w7 ⟨⟨A7, c7, rfl, ho7⟩, k7⟩
      have kk := kk.keepNo k7; have hC := hC.keepNo k7; have hD := hD.keepNo k7; have hL := hL.keepNo k7; have hR := hR.keepNo k7; have hip := hip.keepNo k7; have hpc := hpc.keepNo k7; have hpp := hpp.keepNo k7
      have hF := Sl.ofOwn ho7
      obtain ⟨f, hf⟩ : ∃ f, f = putP (boxK z 8) (fun i => mixedL.getD i 0) 32 := ⟨_, rfl⟩
      rw [← hf] at hF
      (conv => whnf)
      refine VMake.row_ (n := 32) (z := vb 0) (bytes := 1) Try.underlying22 (by kernel_rfl) rfl (by omega) (by omega) ?_
      intro w8 hq k8
      rw [← xorK_zero (roundsP key x k).1 f 32] at hq
      (conv => whnf)
      refine VLoop.by_ tt_ok (S := Nat) (fun t => [(6, .slice A1 28 c1), (7, .slice A2 28 c2), (8, .slice Al 64 cl), (12, .slice Al' 32 cl'), (13, .slice Ar 32 cr), (14, .slice (some ⟨wd.heap.size, 0, none⟩) 48 48), (15, .slice (some ⟨w12.heap.size, 0, none⟩) 32 32), (16, .int .i64 ((k + 1 : Nat) : Int)), (24, .slice A7 32 c7), (25, .slice (some ⟨w7.heap.size, 0, none⟩) 32 32), (26, .int .i64 t)])
        (fun t w' => t ≤ 32 ∧ Blk w' w7.heap.size T8 ((xorK (roundsP key x k).1 f 32 t).map vb) ∧ Keep No w7 w') (fun t => 32 - t) 0
        ⟨rfl, rfl, rfl, rfl, rfl, rfl, rfl, rfl, rfl, rfl, rfl, trivial⟩ ⟨by omega, hq, k8⟩ ?_
      rintro t wt ⟨ht, hq, kt⟩
      have hlt := Blk.lt hq
      (conv => whnf)
      refine VCmp.mk (fun h => ?_) (fun h => ?_) <;> (conv => whnf)
      rotate_left 1
      · obtain rfl : t = 32 := by omega
        rw [xorK_all] at hq
        have kk := kk.trans kt
        refine VRes.i64 (by omega) ?_; (conv => whnf)
        exact ⟨(k + 1, (A1, c1), (A2, c2), (Ar, cr), some ⟨w7.heap.size, 0, none⟩, 32), ⟨rfl, rfl, rfl, rfl, rfl, rfl, rfl, rfl, trivial⟩, ⟨by omega, hC.keepNo kt, hcc, hD.keepNo kt, hcd, hR.keepNo kt, Sl.ofBlk (n := 32) (size := 1) (by rw [hf, hz] at hq; exact hq) (by rw [List.length_map]; exact xorP_len _ _ _), kk⟩, by dsimp only; omega⟩
      have hL' := hL.keepNo kt
      have hF' := hF.keepNo kt
      refine VDraw.by_ tt_ok rfl (.take 0 (.take 1 (.take 2 (.take 3 (.take 4 (.take 5 (.take 6 (.take 7 (.take 8 (.take 9 (.take 10 (.take 11 (.one 12 .done))))))))))))) (by decide +kernel) _ (fun x h1 h2 h3 h4 => Keep.ofHeap h1 h2 h3 h4) (fun wd hd kd => ?_)
      have kt := kt.trans kd
      have hq := hq.keepNo kd
      (conv => whnf)
      refine VIdx.sl (hL') (t) (by first | rfl | omega) (by omega) (fun b_ o_ hA_ hc_ => ?_); (conv => whnf); refine VLoad.keep hc_ ?_; (conv => whnf)
      refine VIdx.sl (hF') (t) (by first | rfl | omega) (by omega) (fun b_ o_ hA_ hc_ => ?_); (conv => whnf); refine VLoad.keep hc_ ?_; (conv => whnf)
      refine VRes.xor8 rfl ?_
      (conv => whnf)
      refine VIdx.one t rfl (by omega) rfl ?_
      (conv => whnf)
      refine VStore.one hq (by rw [List.length_map]; simp [xorK]; omega) ?_
      intro w9 hq9 k9 _
      have kt := kt.fresh_ k9 (Nat.le_refl _)
      (conv => whnf)
      refine VOwe.to (fun _ => True) (fun h => absurd h (by decide +kernel)) trivial ?_; (conv => whnf)
      refine VRes.i64 (by omega) ?_; (conv => whnf)
      exact ⟨t + 1, ⟨rfl, rfl, rfl, rfl, rfl, rfl, rfl, rfl, rfl, rfl, rfl, trivial⟩, ⟨by omega, by rw [← xorK_set, List.map_set]; simpa [vb] using hq9, kt⟩, by omega⟩
    refine VMake.row_ (n := 6) (z := nv 0) (bytes := 8) Try.underlying74 (by kernel_rfl) rfl (by omega) (by omega) ?_
    intro w6 hq k6
    have hq : Blk w6 wi.heap.size TId ((sixK z i 0).map nv) := by rw [sixK, List.map_replicate]; exact hq
    (conv => whnf)
    refine VLoop.by_ tt_ok (S := Nat) (fun j => [(6, .slice A1 28 c1), (7, .slice A2 28 c2), (8, .slice Al 64 cl), (12, .slice Al' 32 cl'), (13, .slice Ar 32 cr), (14, .slice (some ⟨wd.heap.size, 0, none⟩) 48 48), (15, .slice (some ⟨w12.heap.size, 0, none⟩) 32 32), (16, .int .i64 ((k + 1 : Nat) : Int)), (18, .slice A5 48 c5), (19, .slice Ao (4 * i) co), (20, .int .i64 i), (21, .slice (some ⟨wi.heap.size, 0, none⟩) 6 6), (22, .int .i64 j)])
      (fun j w' => j ≤ 6 ∧ Blk w' wi.heap.size TId ((sixK z i j).map nv) ∧ Keep No wi w') (fun j => 6 - j) 0
      ⟨rfl, rfl, rfl, rfl, rfl, rfl, rfl, rfl, rfl, rfl, rfl, rfl, rfl, trivial⟩ ⟨by omega, hq, k6⟩ ?_
    rintro j wj ⟨hj, hq, kj⟩
    have hlt := Blk.lt hq
    have hsl := sixK_len z i j
    (conv => whnf)
    refine VCmp.mk (fun h => ?_) (fun h => ?_) <;> (conv => whnf)
    · have hR' := (hR.keepNo ki).keepNo kj
      have hK' := (hK.keepNo ki).keepNo kj
      have q2 : (4 * (i : Int) + (j : Int) + 31).tmod 32 = (((4 * i + j + 31) % 32 : Nat) : Int) := by rw [Int.tmod_eq_emod_of_nonneg (by omega)]; omega
      have hzz := hzat i j (by omega) (by omega)
      refine VDraw.by_ tt_ok rfl (.take 0 (.take 1 (.take 2 (.take 3 (.take 4 (.take 5 (.take 6 (.take 7 (.take 8 (.take 9 (.take 10 (.take 11 (.take 12 (.take 13 (.take 14 (.take 15 (.take 16 (.take 17 (.take 18 (.take 19 (.take 20 (.one 21 .done)))))))))))))))))))))) (by decide +kernel) _ (fun x h1 h2 h3 h4 => Keep.ofHeap h1 h2 h3 h4) (fun wd hd kd => ?_)
      have kj := kj.trans kd
      have hq := hq.keepNo kd
      (conv => whnf)
      refine VRes.i64 (by omega) ?_; (conv => whnf)
      refine VRes.i64 (by omega) ?_; (conv => whnf)
      refine VRes.i64 (by omega) ?_; (conv => whnf)
      refine VReq.mk (by omega) ?_
      refine VRes.to (congrArg (Value.int .i64) q2) ?_
      (conv => whnf)
      refine VIdx.sl (hR') ((4 * i + j + 31) % 32) (by first | rfl | omega) (by omega) (fun b_ o_ hA_ hc_ => ?_); (conv => whnf); refine VLoad.keep hc_ ?_; (conv => whnf)
      refine VRes.i64 (by omega) ?_; (conv => whnf)
      refine VRes.i64 (by omega) ?_; (conv => whnf)
      refine VIdx.sl (hK') (6 * i + j) (by first | rfl | omega) (by omega) (fun b_ o_ hA_ hc_ => ?_); (conv => whnf); refine VLoad.keep hc_ ?_; (conv => whnf)
      refine VRes.xor8 rfl ?_
      rw [← hzz]
      have hz8 := (z.getD (6 * i + j) 0).toNat_lt
      (conv => whnf)
      refine VRes.i64 (by omega) ?_
      (conv => whnf)
      refine VIdx.one j rfl (by omega) rfl ?_
      (conv => whnf)
      refine VStore.one hq (by rw [List.length_map, hsl]; omega) ?_
      intro w9 hq9 k9 _
      have kj := kj.fresh_ k9 (Nat.le_refl _)
      (conv => whnf)
      refine VOwe.to (fun _ => True) (fun h => absurd h (by decide +kernel)) trivial ?_; (conv => whnf)
      refine VRes.i64 (by omega) ?_; (conv => whnf)
      exact ⟨j + 1, ⟨rfl, rfl, rfl, rfl, rfl, rfl, rfl, rfl, rfl, rfl, rfl, rfl, rfl, trivial⟩, ⟨by omega, by rw [sixK, List.map_set]; simpa [nv] using hq9, kj⟩, by omega⟩
    obtain rfl : j = 6 := by omega
    obtain ⟨s0, hs0⟩ : ∃ s, s = (z.getD (6 * i + 0) 0).toNat := ⟨_, rfl⟩
    obtain ⟨s1, hs1⟩ : ∃ s, s = (z.getD (6 * i + 1) 0).toNat := ⟨_, rfl⟩
    obtain ⟨s2, hs2⟩ : ∃ s, s = (z.getD (6 * i + 2) 0).toNat := ⟨_, rfl⟩
    obtain ⟨s3, hs3⟩ : ∃ s, s = (z.getD (6 * i + 3) 0).toNat := ⟨_, rfl⟩
    obtain ⟨s4, hs4⟩ : ∃ s, s = (z.getD (6 * i + 4) 0).toNat := ⟨_, rfl⟩
    obtain ⟨s5, hs5⟩ : ∃ s, s = (z.getD (6 * i + 5) 0).toNat := ⟨_, rfl⟩
    rw [sixK_all, ← hs0, ← hs1, ← hs2, ← hs3, ← hs4, ← hs5] at hq
    have b0 : s0 ≤ 1 := by rw [hs0]; exact hzb.at_ _
    have b1 : s1 ≤ 1 := by rw [hs1]; exact hzb.at_ _
    have b2 : s2 ≤ 1 := by rw [hs2]; exact hzb.at_ _
    have b3 : s3 ≤ 1 := by rw [hs3]; exact hzb.at_ _
    have b4 : s4 ≤ 1 := by rw [hs4]; exact hzb.at_ _
    have b5 : s5 ≤ 1 := by rw [hs5]; exact hzb.at_ _
    have hv : (boxL i).getD (16 * (2 * s0 + s5) + (8 * s1 + 4 * s2 + 2 * s3 + s4)) 0 = (sVal i (sixP z i)).toNat := by
      rw [boxL_at i (2 * s0 + s5) (8 * s1 + 4 * s2 + 2 * s3 + s4) (by omega) (by omega) (by omega)]
      unfold sVal sRow sCol
      rw [sixP_at z i 0 (by omega), sixP_at z i 1 (by omega), sixP_at z i 2 (by omega), sixP_at z i 3 (by omega), sixP_at z i 4 (by omega), sixP_at z i 5 (by omega), ← hs0, ← hs1, ← hs2, ← hs3, ← hs4, ← hs5]
    refine VDraw.by_ tt_ok rfl (.take 0 (.take 2 (.take 3 (.take 4 (.take 5 (.take 6 (.take 7 (.take 8 (.take 9 (.take 10 (.take 11 (.take 12 (.take 13 (.take 14 (.take 15 (.take 16 (.take 17 (.take 18 (.take 19 (.take 20 (.take 21 (.take 22 (.take 23 (.take 24 (.take 25 (.take 26 (.take 27 (.take 28 (.take 29 (.one 1 (.take 30 (.take 31 (.take 32 .done))))))))))))))))))))))))))))))))) (by decide +kernel) _ (fun x h1 h2 h3 h4 => Keep.ofHeap h1 h2 h3 h4) (fun wd hd kd => ?_)
    (conv => whnf)
    refine VIdx.one 0 rfl (by omega) rfl ?_
    (conv => whnf)
    refine VLoad.keep (hq.cell 0) ?_
    (conv => whnf)
    refine VRes.i64 (by omega) ?_; (conv => whnf)
    refine VIdx.one 5 rfl (by omega) rfl ?_
    (conv => whnf)
    refine VLoad.keep (hq.cell 5) ?_
    (conv => whnf)
    refine VRes.i64 (by omega) ?_; (conv => whnf)
    refine VRes.i64 (by omega) ?_; (conv => whnf)
    refine VIdx.one 1 rfl (by omega) rfl ?_
    (conv => whnf)
    refine VLoad.keep (hq.cell 1) ?_
    (conv => whnf)
    refine VRes.i64 (by omega) ?_; (conv => whnf)
    refine VRes.i64 (by omega) ?_; (conv => whnf)
    refine VIdx.one 2 rfl (by omega) rfl ?_
    (conv => whnf)
    refine VLoad.keep (hq.cell 2) ?_
    (conv => whnf)
    refine VRes.i64 (by omega) ?_; (conv => whnf)
    refine VRes.i64 (by omega) ?_; (conv => whnf)
    refine VIdx.one 3 rfl (by omega) rfl ?_
    (conv => whnf)
    refine VLoad.keep (hq.cell 3) ?_
    (conv => whnf)
    refine VRes.i64 (by omega) ?_; (conv => whnf)
    refine VRes.i64 (by omega) ?_; (conv => whnf)
    refine VIdx.one 4 rfl (by omega) rfl ?_
    (conv => whnf)
    refine VLoad.keep (hq.cell 4) ?_
    (conv => whnf)
    refine VRes.i64 (by omega) ?_; (conv => whnf)
    refine (box_ok _ (i := i) (by omega)).mono ?_
    rintro v w4 ⟨⟨A9, c9, rfl, hbx⟩, k9⟩
    have kj9 := (kj.trans kd).trans k9
    have hown := hown.keepNo kj9
    have ki := ki.trans kj9
    (conv => whnf)
    refine VOwe.to (fun y => Keep No w4 y) (fun _ y hy => (kd.trans k9).trans hy) (Keep.refl _ _) ?_
    (conv => whnf)
    refine VIdx.nv hbx (16 * (2 * s0 + s5) + (8 * s1 + 4 * s2 + 2 * s3 + s4)) (by omega) (by omega) (fun b_ o_ hA_ hc_ => ?_)
    (conv => whnf)
    refine VLoad.keep hc_ ?_
    rw [hv]
    obtain ⟨V, hV⟩ : ∃ V, V = sVal i (sixP z i) := ⟨_, rfl⟩
    rw [← hV]
    have hV8 := V.toNat_lt
    (conv => whnf)
    refine VReq.mk (by omega) ?_
    refine VRes.shrN (k := .i64) (N := V.toNat) (s := 3) rfl rfl (by decide) ?_
    (conv => whnf)
    refine VRes.andNat (N := V.toNat / 2 ^ 3) (M := 1) (R := V.toNat / 2 ^ 3 % 2) rfl rfl (by omega) (by omega) (Nat.and_one_is_mod _) ?_
    (conv => whnf)
    refine VRes.byte (N := V.toNat / 2 ^ 3 % 2) rfl ?_
    (conv => whnf)
    refine VReq.mk (by omega) ?_
    refine VRes.shrN (k := .i64) (N := V.toNat) (s := 2) rfl rfl (by decide) ?_
    (conv => whnf)
    refine VRes.andNat (N := V.toNat / 2 ^ 2) (M := 1) (R := V.toNat / 2 ^ 2 % 2) rfl rfl (by omega) (by omega) (Nat.and_one_is_mod _) ?_
    (conv => whnf)
    refine VRes.byte (N := V.toNat / 2 ^ 2 % 2) rfl ?_
    (conv => whnf)
    refine VReq.mk (by omega) ?_
    refine VRes.shrN (k := .i64) (N := V.toNat) (s := 1) rfl rfl (by decide) ?_
    (conv => whnf)
    refine VRes.andNat (N := V.toNat / 2 ^ 1) (M := 1) (R := V.toNat / 2 ^ 1 % 2) rfl rfl (by omega) (by omega) (Nat.and_one_is_mod _) ?_
    (conv => whnf)
    refine VRes.byte (N := V.toNat / 2 ^ 1 % 2) rfl ?_
    (conv => whnf)
    refine VRes.andNat (N := V.toNat) (M := 1) (R := V.toNat % 2) rfl rfl (by omega) (by omega) (Nat.and_one_is_mod _) ?_
    (conv => whnf)
    refine VRes.byte (N := V.toNat % 2) rfl ?_
    (conv => whnf)
    refine VFill.by_ rfl ?_; (conv => whnf)
    refine ⟨fun w10 hb10 k10 => ?_⟩
    have ki := ki.trans k10
    have hown := hown.keepNo k10
    have hys : Sl w10 1 (some ⟨w4.heap.size, 0, none⟩) 4 ((nibP V).map vb) := Sl.ofBlk (n := 4) (size := 1) (by rw [nibP_eq]; exact hb10) (by rw [List.length_map, nibP_len])
    (conv => whnf)
    refine appBd (w0 := w5) ki hown hys (by omega) ?_
    intro A11 c11 w11 ho11 k11 _
    (conv => whnf)
    refine VRes.i64 (by omega) ?_; (conv => whnf)
    exact ⟨(i + 1, A11, c11), ⟨rfl, rfl, rfl, rfl, rfl, rfl, rfl, rfl, rfl, rfl, rfl, trivial⟩, ⟨by omega, by rw [boxK_snoc, ← hV]; exact ho11, k11⟩, by dsimp only; omega⟩
  refine VCmp.mk (fun hr => ?_) (fun hr1 => ?_) <;> (conv => whnf)
  · have hsh : shiftP (k + 1) = 1 := by unfold shiftP; rw [if_pos (by omega)]
    refine (turn_ok w' (k := 1) hC hcc (by omega) (by omega)).mono ?_
    rintro v w1 ⟨⟨A1, c1, rfl, ho1⟩, k1⟩
    have hC := Sl.ofOwn ho1
    have hcc := ho1.le
    have kk := kk.keepNo k1; have hD := hD.keepNo k1; have hL := hL.keepNo k1; have hR := hR.keepNo k1; have hip := hip.keepNo k1; have hpc := hpc.keepNo k1; have hpp := hpp.keepNo k1
    (conv => whnf)
    refine (turn_ok w1 (k := 1) hD hcd (by omega) (by omega)).mono ?_
    rintro v w2 ⟨⟨A2, c2, rfl, ho2⟩, k2⟩
    have hD := Sl.ofOwn ho2
    have hcd := ho2.le
    have kk := kk.keepNo k2; have hC := hC.keepNo k2; have hL := hL.keepNo k2; have hR := hR.keepNo k2; have hip := hip.keepNo k2; have hpc := hpc.keepNo k2; have hpp := hpp.keepNo k2
    have hC : Sl w2 1 A1 28 ((cdP key (k + 1)).1.map vb) := by
      rw [show (cdP key (k + 1)).1 = turnP (cdP key k).1 1 from by show turnP _ (shiftP (k + 1)) = _; rw [hsh]]; exact hC
    have hD : Sl w2 1 A2 28 ((cdP key (k + 1)).2.map vb) := by
      rw [show (cdP key (k + 1)).2 = turnP (cdP key k).2 1 from by show turnP _ (shiftP (k + 1)) = _; rw [hsh]]; exact hD
    (conv => whnf)
    refine (copy_ok w2 hC (by omega)).mono ?_
    rintro v w3 ⟨A3, c3, rfl, ho3, k3⟩
    (conv => whnf)
    refine appBd (w0 := w2) k3 ho3 (hD.keepNo k3) (by omega) ?_
    intro A4 c4 w4 ho4 k4 _
    have kk := kk.keepNo k4; have hC := hC.keepNo k4; have hD := hD.keepNo k4; have hL := hL.keepNo k4; have hR := hR.keepNo k4; have hip := hip.keepNo k4; have hpc := hpc.keepNo k4; have hpp := hpp.keepNo k4
    (conv => whnf)
    refine (pick_ok w4 (Sl.ofOwn ho4) hpc (by omega) (by omega) (fun i hi => chosen_range i hi)).mono ?_
    rintro v w5 ⟨⟨A5, c5, rfl, ho5⟩, k5⟩
    have kk := kk.keepNo k5; have hC := hC.keepNo k5; have hD := hD.keepNo k5; have hL := hL.keepNo k5; have hR := hR.keepNo k5; have hip := hip.keepNo k5; have hpc := hpc.keepNo k5; have hpp := hpp.keepNo k5
    have hK : Sl w5 1 A5 48 ((keyP key (k + 1)).map vb) := Sl.ofOwn ho5
    (conv => whnf)
    refine VLoop.by_ tt_ok (S := Nat × Option Addr × Nat) (fun | (i, Ao, co) => [(6, .slice A1 28 c1), (7, .slice A2 28 c2), (8, .slice Al 64 cl), (12, .slice Al' 32 cl'), (13, .slice Ar 32 cr), (14, .slice (some ⟨wd.heap.size, 0, none⟩) 48 48), (15, .slice (some ⟨w12.heap.size, 0, none⟩) 32 32), (16, .int .i64 ((k + 1 : Nat) : Int)), (18, .slice A5 48 c5), (19, .slice Ao (4 * i) co), (20, .int .i64 i)])
      (fun | (i, Ao, co) => fun w' => i ≤ 8 ∧ Own w' w5.heap.size T8 1 Ao (4 * i) co ((boxK z i).map vb) ∧ Keep No w5 w') (fun | (i, _) => 8 - i)
      (0, none, 0) ⟨rfl, rfl, rfl, rfl, rfl, rfl, rfl, rfl, rfl, rfl, rfl, trivial⟩ ⟨by omega, Own.nil _ _ _ _, Keep.refl _ _⟩ ?_
    rintro ⟨i, Ao, co⟩ wi ⟨hi, hown, ki⟩
    (conv => whnf)
    refine VCmp.mk (fun h => ?_) (fun h => ?_) <;> (conv => whnf)
    rotate_left 1
    · obtain rfl : i = 8 := by omega
      have kk := kk.keepNo ki; have hC := hC.keepNo ki; have hD := hD.keepNo ki; have hL := hL.keepNo ki; have hR := hR.keepNo ki; have hip := hip.keepNo ki; have hpc := hpc.keepNo ki; have hpp := hpp.keepNo ki
      refine (pick_ok wi (m := 4 * 8) (Sl.ofOwn hown) hpp (by omega) (by omega) (fun i hi => mixed_range i hi)).mono ?_
      rintro v w7 ⟨⟨A7, c7, rfl, ho7⟩, k7⟩
      have kk := kk.keepNo k7; have hC := hC.keepNo k7; have hD := hD.keepNo k7; have hL := hL.keepNo k7; have hR := hR.keepNo k7; have hip := hip.keepNo k7; have hpc := hpc.keepNo k7; have hpp := hpp.keepNo k7
      have hF := Sl.ofOwn ho7
      obtain ⟨f, hf⟩ : ∃ f, f = putP (boxK z 8) (fun i => mixedL.getD i 0) 32 := ⟨_, rfl⟩
      rw [← hf] at hF
      (conv => whnf)
      refine VMake.row_ (n := 32) (z := vb 0) (bytes := 1) Try.underlying22 (by kernel_rfl) rfl (by omega) (by omega) ?_
      intro w8 hq k8
      rw [← xorK_zero (roundsP key x k).1 f 32] at hq
      (conv => whnf)
      refine VLoop.by_ tt_ok (S := Nat) (fun t => [(6, .slice A1 28 c1), (7, .slice A2 28 c2), (8, .slice Al 64 cl), (12, .slice Al' 32 cl'), (13, .slice Ar 32 cr), (14, .slice (some ⟨wd.heap.size, 0, none⟩) 48 48), (15, .slice (some ⟨w12.heap.size, 0, none⟩) 32 32), (16, .int .i64 ((k + 1 : Nat) : Int)), (24, .slice A7 32 c7), (25, .slice (some ⟨w7.heap.size, 0, none⟩) 32 32), (26, .int .i64 t)])
        (fun t w' => t ≤ 32 ∧ Blk w' w7.heap.size T8 ((xorK (roundsP key x k).1 f 32 t).map vb) ∧ Keep No w7 w') (fun t => 32 - t) 0
        ⟨rfl, rfl, rfl, rfl, rfl, rfl, rfl, rfl, rfl, rfl, rfl, trivial⟩ ⟨by omega, hq, k8⟩ ?_
      rintro t wt ⟨ht, hq, kt⟩
      have hlt := Blk.lt hq
      (conv => whnf)
      refine VCmp.mk (fun h => ?_) (fun h => ?_) <;> (conv => whnf)
      rotate_left 1
      · obtain rfl : t = 32 := by omega
        rw [xorK_all] at hq
        have kk := kk.trans kt
        refine VRes.i64 (by omega) ?_; (conv => whnf)
        exact ⟨(k + 1, (A1, c1), (A2, c2), (Ar, cr), some ⟨w7.heap.size, 0, none⟩, 32), ⟨rfl, rfl, rfl, rfl, rfl, rfl, rfl, rfl, trivial⟩, ⟨by omega, hC.keepNo kt, hcc, hD.keepNo kt, hcd, hR.keepNo kt, Sl.ofBlk (n := 32) (size := 1) (by rw [hf, hz] at hq; exact hq) (by rw [List.length_map]; exact xorP_len _ _ _), kk⟩, by dsimp only; omega⟩
      have hL' := hL.keepNo kt
      have hF' := hF.keepNo kt
      refine VDraw.by_ tt_ok rfl (.take 0 (.take 1 (.take 2 (.take 3 (.take 4 (.take 5 (.take 6 (.take 7 (.take 8 (.take 9 (.take 10 (.take 11 (.one 12 .done))))))))))))) (by decide +kernel) _ (fun x h1 h2 h3 h4 => Keep.ofHeap h1 h2 h3 h4) (fun wd hd kd => ?_)
      have kt := kt.trans kd
      have hq := hq.keepNo kd
      (conv => whnf)
      refine VIdx.sl (hL') (t) (by first | rfl | omega) (by omega) (fun b_ o_ hA_ hc_ => ?_); (conv => whnf); refine VLoad.keep hc_ ?_; (conv => whnf)
      refine VIdx.sl (hF') (t) (by first | rfl | omega) (by omega) (fun b_ o_ hA_ hc_ => ?_); (conv => whnf); refine VLoad.keep hc_ ?_; (conv => whnf)
      refine VRes.xor8 rfl ?_
      (conv => whnf)
      refine VIdx.one t rfl (by omega) rfl ?_
      (conv => whnf)
      refine VStore.one hq (by rw [List.length_map]; simp [xorK]; omega) ?_
      intro w9 hq9 k9 _
      have kt := kt.fresh_ k9 (Nat.le_refl _)
      (conv => whnf)
      refine VOwe.to (fun _ => True) (fun h => absurd h (by decide +kernel)) trivial ?_; (conv => whnf)
      refine VRes.i64 (by omega) ?_; (conv => whnf)
      exact ⟨t + 1, ⟨rfl, rfl, rfl, rfl, rfl, rfl, rfl, rfl, rfl, rfl, rfl, trivial⟩, ⟨by omega, by rw [← xorK_set, List.map_set]; simpa [vb] using hq9, kt⟩, by omega⟩
    refine VMake.row_ (n := 6) (z := nv 0) (bytes := 8) Try.underlying74 (by kernel_rfl) rfl (by omega) (by omega) ?_
    intro w6 hq k6
    have hq : Blk w6 wi.heap.size TId ((sixK z i 0).map nv) := by rw [sixK, List.map_replicate]; exact hq
    (conv => whnf)
    refine VLoop.by_ tt_ok (S := Nat) (fun j => [(6, .slice A1 28 c1), (7, .slice A2 28 c2), (8, .slice Al 64 cl), (12, .slice Al' 32 cl'), (13, .slice Ar 32 cr), (14, .slice (some ⟨wd.heap.size, 0, none⟩) 48 48), (15, .slice (some ⟨w12.heap.size, 0, none⟩) 32 32), (16, .int .i64 ((k + 1 : Nat) : Int)), (18, .slice A5 48 c5), (19, .slice Ao (4 * i) co), (20, .int .i64 i), (21, .slice (some ⟨wi.heap.size, 0, none⟩) 6 6), (22, .int .i64 j)])
      (fun j w' => j ≤ 6 ∧ Blk w' wi.heap.size TId ((sixK z i j).map nv) ∧ Keep No wi w') (fun j => 6 - j) 0
      ⟨rfl, rfl, rfl, rfl, rfl, rfl, rfl, rfl, rfl, rfl, rfl, rfl, rfl, trivial⟩ ⟨by omega, hq, k6⟩ ?_
    rintro j wj ⟨hj, hq, kj⟩
    have hlt := Blk.lt hq
    have hsl := sixK_len z i j
    (conv => whnf)
    refine VCmp.mk (fun h => ?_) (fun h => ?_) <;> (conv => whnf)
    · have hR' := (hR.keepNo ki).keepNo kj
      have hK' := (hK.keepNo ki).keepNo kj
      have q2 : (4 * (i : Int) + (j : Int) + 31).tmod 32 = (((4 * i + j + 31) % 32 : Nat) : Int) := by rw [Int.tmod_eq_emod_of_nonneg (by omega)]; omega
      have hzz := hzat i j (by omega) (by omega)
      refine VDraw.by_ tt_ok rfl (.take 0 (.take 1 (.take 2 (.take 3 (.take 4 (.take 5 (.take 6 (.take 7 (.take 8 (.take 9 (.take 10 (.take 11 (.take 12 (.take 13 (.take 14 (.take 15 (.take 16 (.take 17 (.take 18 (.take 19 (.take 20 (.one 21 .done)))))))))))))))))))))) (by decide +kernel) _ (fun x h1 h2 h3 h4 => Keep.ofHeap h1 h2 h3 h4) (fun wd hd kd => ?_)
      have kj := kj.trans kd
      have hq := hq.keepNo kd
      (conv => whnf)
      refine VRes.i64 (by omega) ?_; (conv => whnf)
      refine VRes.i64 (by omega) ?_; (conv => whnf)
      refine VRes.i64 (by omega) ?_; (conv => whnf)
      refine VReq.mk (by omega) ?_
      refine VRes.to (congrArg (Value.int .i64) q2) ?_
      (conv => whnf)
      refine VIdx.sl (hR') ((4 * i + j + 31) % 32) (by first | rfl | omega) (by omega) (fun b_ o_ hA_ hc_ => ?_); (conv => whnf); refine VLoad.keep hc_ ?_; (conv => whnf)
      refine VRes.i64 (by omega) ?_; (conv => whnf)
      refine VRes.i64 (by omega) ?_; (conv => whnf)
      refine VIdx.sl (hK') (6 * i + j) (by first | rfl | omega) (by omega) (fun b_ o_ hA_ hc_ => ?_); (conv => whnf); refine VLoad.keep hc_ ?_; (conv => whnf)
      refine VRes.xor8 rfl ?_
      rw [← hzz]
      have hz8 := (z.getD (6 * i + j) 0).toNat_lt
      (conv => whnf)
      refine VRes.i64 (by omega) ?_
      (conv => whnf)
      refine VIdx.one j rfl (by omega) rfl ?_
      (conv => whnf)
      refine VStore.one hq (by rw [List.length_map, hsl]; omega) ?_
      intro w9 hq9 k9 _
      have kj := kj.fresh_ k9 (Nat.le_refl _)
      (conv => whnf)
      refine VOwe.to (fun _ => True) (fun h => absurd h (by decide +kernel)) trivial ?_; (conv => whnf)
      refine VRes.i64 (by omega) ?_; (conv => whnf)
      exact ⟨j + 1, ⟨rfl, rfl, rfl, rfl, rfl, rfl, rfl, rfl, rfl, rfl, rfl, rfl, rfl, trivial⟩, ⟨by omega, by rw [sixK, List.map_set]; simpa [nv] using hq9, kj⟩, by omega⟩
    obtain rfl : j = 6 := by omega
    obtain ⟨s0, hs0⟩ : ∃ s, s = (z.getD (6 * i + 0) 0).toNat := ⟨_, rfl⟩
    obtain ⟨s1, hs1⟩ : ∃ s, s = (z.getD (6 * i + 1) 0).toNat := ⟨_, rfl⟩
    obtain ⟨s2, hs2⟩ : ∃ s, s = (z.getD (6 * i + 2) 0).toNat := ⟨_, rfl⟩
    obtain ⟨s3, hs3⟩ : ∃ s, s = (z.getD (6 * i + 3) 0).toNat := ⟨_, rfl⟩
    obtain ⟨s4, hs4⟩ : ∃ s, s = (z.getD (6 * i + 4) 0).toNat := ⟨_, rfl⟩
    obtain ⟨s5, hs5⟩ : ∃ s, s = (z.getD (6 * i + 5) 0).toNat := ⟨_, rfl⟩
    rw [sixK_all, ← hs0, ← hs1, ← hs2, ← hs3, ← hs4, ← hs5] at hq
    have b0 : s0 ≤ 1 := by rw [hs0]; exact hzb.at_ _
    have b1 : s1 ≤ 1 := by rw [hs1]; exact hzb.at_ _
    have b2 : s2 ≤ 1 := by rw [hs2]; exact hzb.at_ _
    have b3 : s3 ≤ 1 := by rw [hs3]; exact hzb.at_ _
    have b4 : s4 ≤ 1 := by rw [hs4]; exact hzb.at_ _
    have b5 : s5 ≤ 1 := by rw [hs5]; exact hzb.at_ _
    have hv : (boxL i).getD (16 * (2 * s0 + s5) + (8 * s1 + 4 * s2 + 2 * s3 + s4)) 0 = (sVal i (sixP z i)).toNat := by
      rw [boxL_at i (2 * s0 + s5) (8 * s1 + 4 * s2 + 2 * s3 + s4) (by omega) (by omega) (by omega)]
      unfold sVal sRow sCol
      rw [sixP_at z i 0 (by omega), sixP_at z i 1 (by omega), sixP_at z i 2 (by omega), sixP_at z i 3 (by omega), sixP_at z i 4 (by omega), sixP_at z i 5 (by omega), ← hs0, ← hs1, ← hs2, ← hs3, ← hs4, ← hs5]
    refine VDraw.by_ tt_ok rfl (.take 0 (.take 2 (.take 3 (.take 4 (.take 5 (.take 6 (.take 7 (.take 8 (.take 9 (.take 10 (.take 11 (.take 12 (.take 13 (.take 14 (.take 15 (.take 16 (.take 17 (.take 18 (.take 19 (.take 20 (.take 21 (.take 22 (.take 23 (.take 24 (.take 25 (.take 26 (.take 27 (.take 28 (.take 29 (.one 1 (.take 30 (.take 31 (.take 32 .done))))))))))))))))))))))))))))))))) (by decide +kernel) _ (fun x h1 h2 h3 h4 => Keep.ofHeap h1 h2 h3 h4) (fun wd hd kd => ?_)
    (conv => whnf)
    refine VIdx.one 0 rfl (by omega) rfl ?_
    (conv => whnf)
    refine VLoad.keep (hq.cell 0) ?_
    (conv => whnf)
    refine VRes.i64 (by omega) ?_; (conv => whnf)
    refine VIdx.one 5 rfl (by omega) rfl ?_
    (conv => whnf)
    refine VLoad.keep (hq.cell 5) ?_
    (conv => whnf)
    refine VRes.i64 (by omega) ?_; (conv => whnf)
    refine VRes.i64 (by omega) ?_; (conv => whnf)
    refine VIdx.one 1 rfl (by omega) rfl ?_
    (conv => whnf)
    refine VLoad.keep (hq.cell 1) ?_
    (conv => whnf)
    refine VRes.i64 (by omega) ?_; (conv => whnf)
    refine VRes.i64 (by omega) ?_; (conv => whnf)
    refine VIdx.one 2 rfl (by omega) rfl ?_
    (conv => whnf)
    refine VLoad.keep (hq.cell 2) ?_
    (conv => whnf)
    refine VRes.i64 (by omega) ?_; (conv => whnf)
    refine VRes.i64 (by omega) ?_; (conv => whnf)
    refine VIdx.one 3 rfl (by omega) rfl ?_
    (conv => whnf)
    refine VLoad.keep (hq.cell 3) ?_
    (conv => whnf)
    refine VRes.i64 (by omega) ?_; (conv => whnf)
    refine VRes.i64 (by omega) ?_; (conv => whnf)
    refine VIdx.one 4 rfl (by omega) rfl ?_
    (conv => whnf)
    refine VLoad.keep (hq.cell 4) ?_
    (conv => whnf)
    refine VRes.i64 (by omega) ?_; (conv => whnf)
    refine (box_ok _ (i := i) (by omega)).mono ?_
    rintro v w4 ⟨⟨A9, c9, rfl, hbx⟩, k9⟩
    have kj9 := (kj.trans kd).trans k9
    have hown := hown.keepNo kj9
    have ki := ki.trans kj9
    (conv => whnf)
    refine VOwe.to (fun y => Keep No w4 y) (fun _ y hy => (kd.trans k9).trans hy) (Keep.refl _ _) ?_
    (conv => whnf)
    refine VIdx.nv hbx (16 * (2 * s0 + s5) + (8 * s1 + 4 * s2 + 2 * s3 + s4)) (by omega) (by omega) (fun b_ o_ hA_ hc_ => ?_)
    (conv => whnf)
    refine VLoad.keep hc_ ?_
    rw [hv]
    obtain ⟨V, hV⟩ : ∃ V, V = sVal i (sixP z i) := ⟨_, rfl⟩
    rw [← hV]
    have hV8 := V.toNat_lt
    (conv => whnf)
    refine VReq.mk (by omega) ?_
    refine VRes.shrN (k := .i64) (N := V.toNat) (s := 3) rfl rfl (by decide) ?_
    (conv => whnf)
    refine VRes.andNat (N := V.toNat / 2 ^ 3) (M := 1) (R := V.toNat / 2 ^ 3 % 2) rfl rfl (by omega) (by omega) (Nat.and_one_is_mod _) ?_
    (conv => whnf)
    refine VRes.byte (N := V.toNat / 2 ^ 3 % 2) rfl ?_
    (conv => whnf)
    refine VReq.mk (by omega) ?_
    refine VRes.shrN (k := .i64) (N := V.toNat) (s := 2) rfl rfl (by decide) ?_
    (conv => whnf)
    refine VRes.andNat (N := V.toNat / 2 ^ 2) (M := 1) (R := V.toNat / 2 ^ 2 % 2) rfl rfl (by omega) (by omega) (Nat.and_one_is_mod _) ?_
    (conv => whnf)
    refine VRes.byte (N := V.toNat / 2 ^ 2 % 2) rfl ?_
    (conv => whnf)
    refine VReq.mk (by omega) ?_
    refine VRes.shrN (k := .i64) (N := V.toNat) (s := 1) rfl rfl (by decide) ?_
    (conv => whnf)
    refine VRes.andNat (N := V.toNat / 2 ^ 1) (M := 1) (R := V.toNat / 2 ^ 1 % 2) rfl rfl (by omega) (by omega) (Nat.and_one_is_mod _) ?_
    (conv => whnf)
    refine VRes.byte (N := V.toNat / 2 ^ 1 % 2) rfl ?_
    (conv => whnf)
    refine VRes.andNat (N := V.toNat) (M := 1) (R := V.toNat % 2) rfl rfl (by omega) (by omega) (Nat.and_one_is_mod _) ?_
    (conv => whnf)
    refine VRes.byte (N := V.toNat % 2) rfl ?_
    (conv => whnf)
    refine VFill.by_ rfl ?_; (conv => whnf)
    refine ⟨fun w10 hb10 k10 => ?_⟩
    have ki := ki.trans k10
    have hown := hown.keepNo k10
    have hys : Sl w10 1 (some ⟨w4.heap.size, 0, none⟩) 4 ((nibP V).map vb) := Sl.ofBlk (n := 4) (size := 1) (by rw [nibP_eq]; exact hb10) (by rw [List.length_map, nibP_len])
    (conv => whnf)
    refine appBd (w0 := w5) ki hown hys (by omega) ?_
    intro A11 c11 w11 ho11 k11 _
    (conv => whnf)
    refine VRes.i64 (by omega) ?_; (conv => whnf)
    exact ⟨(i + 1, A11, c11), ⟨rfl, rfl, rfl, rfl, rfl, rfl, rfl, rfl, rfl, rfl, rfl, trivial⟩, ⟨by omega, by rw [boxK_snoc, ← hV]; exact ho11, k11⟩, by dsimp only; omega⟩
  refine VCmp.mk (fun hr => ?_) (fun hr2 => ?_) <;> (conv => whnf)
  · have hsh : shiftP (k + 1) = 1 := by unfold shiftP; rw [if_pos (by omega)]
    refine (turn_ok w' (k := 1) hC hcc (by omega) (by omega)).mono ?_
    rintro v w1 ⟨⟨A1, c1, rfl, ho1⟩, k1⟩
    have hC := Sl.ofOwn ho1
    have hcc := ho1.le
    have kk := kk.keepNo k1; have hD := hD.keepNo k1; have hL := hL.keepNo k1; have hR := hR.keepNo k1; have hip := hip.keepNo k1; have hpc := hpc.keepNo k1; have hpp := hpp.keepNo k1
    (conv => whnf)
    refine (turn_ok w1 (k := 1) hD hcd (by omega) (by omega)).mono ?_
    rintro v w2 ⟨⟨A2, c2, rfl, ho2⟩, k2⟩
    have hD := Sl.ofOwn ho2
    have hcd := ho2.le
    have kk := kk.keepNo k2; have hC := hC.keepNo k2; have hL := hL.keepNo k2; have hR := hR.keepNo k2; have hip := hip.keepNo k2; have hpc := hpc.keepNo k2; have hpp := hpp.keepNo k2
    have hC : Sl w2 1 A1 28 ((cdP key (k + 1)).1.map vb) := by
      rw [show (cdP key (k + 1)).1 = turnP (cdP key k).1 1 from by show turnP _ (shiftP (k + 1)) = _; rw [hsh]]; exact hC
    have hD : Sl w2 1 A2 28 ((cdP key (k + 1)).2.map vb) := by
      rw [show (cdP key (k + 1)).2 = turnP (cdP key k).2 1 from by show turnP _ (shiftP (k + 1)) = _; rw [hsh]]; exact hD
    (conv => whnf)
    refine (copy_ok w2 hC (by omega)).mono ?_
    rintro v w3 ⟨A3, c3, rfl, ho3, k3⟩
    (conv => whnf)
    refine appBd (w0 := w2) k3 ho3 (hD.keepNo k3) (by omega) ?_
    intro A4 c4 w4 ho4 k4 _
    have kk := kk.keepNo k4; have hC := hC.keepNo k4; have hD := hD.keepNo k4; have hL := hL.keepNo k4; have hR := hR.keepNo k4; have hip := hip.keepNo k4; have hpc := hpc.keepNo k4; have hpp := hpp.keepNo k4
    (conv => whnf)
    refine (pick_ok w4 (Sl.ofOwn ho4) hpc (by omega) (by omega) (fun i hi => chosen_range i hi)).mono ?_
    rintro v w5 ⟨⟨A5, c5, rfl, ho5⟩, k5⟩
    have kk := kk.keepNo k5; have hC := hC.keepNo k5; have hD := hD.keepNo k5; have hL := hL.keepNo k5; have hR := hR.keepNo k5; have hip := hip.keepNo k5; have hpc := hpc.keepNo k5; have hpp := hpp.keepNo k5
    have hK : Sl w5 1 A5 48 ((keyP key (k + 1)).map vb) := Sl.ofOwn ho5
    (conv => whnf)
    refine VLoop.by_ tt_ok (S := Nat × Option Addr × Nat) (fun | (i, Ao, co) => [(6, .slice A1 28 c1), (7, .slice A2 28 c2), (8, .slice Al 64 cl), (12, .slice Al' 32 cl'), (13, .slice Ar 32 cr), (14, .slice (some ⟨wd.heap.size, 0, none⟩) 48 48), (15, .slice (some ⟨w12.heap.size, 0, none⟩) 32 32), (16, .int .i64 ((k + 1 : Nat) : Int)), (18, .slice A5 48 c5), (19, .slice Ao (4 * i) co), (20, .int .i64 i)])
      (fun | (i, Ao, co) => fun w' => i ≤ 8 ∧ Own w' w5.heap.size T8 1 Ao (4 * i) co ((boxK z i).map vb) ∧ Keep No w5 w') (fun | (i, _) => 8 - i)
      (0, none, 0) ⟨rfl, rfl, rfl, rfl, rfl, rfl, rfl, rfl, rfl, rfl, rfl, trivial⟩ ⟨by omega, Own.nil _ _ _ _, Keep.refl _ _⟩ ?_
    rintro ⟨i, Ao, co⟩ wi ⟨hi, hown, ki⟩
    (conv => whnf)
    refine VCmp.mk (fun h => ?_) (fun h => ?_) <;> (conv => whnf)
    rotate_left 1
    · obtain rfl : i = 8 := by omega
      have kk := kk.keepNo ki; have hC := hC.keepNo ki; have hD := hD.keepNo ki; have hL := hL.keepNo ki; have hR := hR.keepNo ki; have hip := hip.keepNo ki; have hpc := hpc.keepNo ki; have hpp := hpp.keepNo ki
      refine (pick_ok wi (m := 4 * 8) (Sl.ofOwn hown) hpp (by omega) (by omega) (fun i hi => mixed_range i hi)).mono ?_
      rintro v w7 ⟨⟨A7, c7, rfl, ho7⟩, k7⟩
      have kk := kk.keepNo k7; have hC := hC.keepNo k7; have hD := hD.keepNo k7; have hL := hL.keepNo k7; have hR := hR.keepNo k7; have hip := hip.keepNo k7; have hpc := hpc.keepNo k7; have hpp := hpp.keepNo k7
      have hF := Sl.ofOwn ho7
      obtain ⟨f, hf⟩ : ∃ f, f = putP (boxK z 8) (fun i => mixedL.getD i 0) 32 := ⟨_, rfl⟩
      rw [← hf] at hF
      (conv => whnf)
      refine VMake.row_ (n := 32) (z := vb 0) (bytes := 1) Try.underlying22 (by kernel_rfl) rfl (by omega) (by omega) ?_
      intro w8 hq k8
      rw [← xorK_zero (roundsP key x k).1 f 32] at hq
      (conv => whnf)
      refine VLoop.by_ tt_ok (S := Nat) (fun t => [(6, .slice A1 28 c1), (7, .slice A2 28 c2), (8, .slice Al 64 cl), (12, .slice Al' 32 cl'), (13, .slice Ar 32 cr), (14, .slice (some ⟨wd.heap.size, 0, none⟩) 48 48), (15, .slice (some ⟨w12.heap.size, 0, none⟩) 32 32), (16, .int .i64 ((k + 1 : Nat) : Int)), (24, .slice A7 32 c7), (25, .slice (some ⟨w7.heap.size, 0, none⟩) 32 32), (26, .int .i64 t)])
        (fun t w' => t ≤ 32 ∧ Blk w' w7.heap.size T8 ((xorK (roundsP key x k).1 f 32 t).map vb) ∧ Keep No w7 w') (fun t => 32 - t) 0
        ⟨rfl, rfl, rfl, rfl, rfl, rfl, rfl, rfl, rfl, rfl, rfl, trivial⟩ ⟨by omega, hq, k8⟩ ?_
      rintro t wt ⟨ht, hq, kt⟩
      have hlt := Blk.lt hq
      (conv => whnf)
      refine VCmp.mk (fun h => ?_) (fun h => ?_) <;> (conv => whnf)
      rotate_left 1
      · obtain rfl : t = 32 := by omega
        rw [xorK_all] at hq
        have kk := kk.trans kt
        refine VRes.i64 (by omega) ?_; (conv => whnf)
        exact ⟨(k + 1, (A1, c1), (A2, c2), (Ar, cr), some ⟨w7.heap.size, 0, none⟩, 32), ⟨rfl, rfl, rfl, rfl, rfl, rfl, rfl, rfl, trivial⟩, ⟨by omega, hC.keepNo kt, hcc, hD.keepNo kt, hcd, hR.keepNo kt, Sl.ofBlk (n := 32) (size := 1) (by rw [hf, hz] at hq; exact hq) (by rw [List.length_map]; exact xorP_len _ _ _), kk⟩, by dsimp only; omega⟩
      have hL' := hL.keepNo kt
      have hF' := hF.keepNo kt
      refine VDraw.by_ tt_ok rfl (.take 0 (.take 1 (.take 2 (.take 3 (.take 4 (.take 5 (.take 6 (.take 7 (.take 8 (.take 9 (.take 10 (.take 11 (.one 12 .done))))))))))))) (by decide +kernel) _ (fun x h1 h2 h3 h4 => Keep.ofHeap h1 h2 h3 h4) (fun wd hd kd => ?_)
      have kt := kt.trans kd
      have hq := hq.keepNo kd
      (conv => whnf)
      refine VIdx.sl (hL') (t) (by first | rfl | omega) (by omega) (fun b_ o_ hA_ hc_ => ?_); (conv => whnf); refine VLoad.keep hc_ ?_; (conv => whnf)
      refine VIdx.sl (hF') (t) (by first | rfl | omega) (by omega) (fun b_ o_ hA_ hc_ => ?_); (conv => whnf); refine VLoad.keep hc_ ?_; (conv => whnf)
      refine VRes.xor8 rfl ?_
      (conv => whnf)
      refine VIdx.one t rfl (by omega) rfl ?_
      (conv => whnf)
      refine VStore.one hq (by rw [List.length_map]; simp [xorK]; omega) ?_
      intro w9 hq9 k9 _
      have kt := kt.fresh_ k9 (Nat.le_refl _)
      (conv => whnf)
      refine VOwe.to (fun _ => True) (fun h => absurd h (by decide +kernel)) trivial ?_; (conv => whnf)
      refine VRes.i64 (by omega) ?_; (conv => whnf)
      exact ⟨t + 1, ⟨rfl, rfl, rfl, rfl, rfl, rfl, rfl, rfl, rfl, rfl, rfl, trivial⟩, ⟨by omega, by rw [← xorK_set, List.map_set]; simpa [vb] using hq9, kt⟩, by omega⟩
    refine VMake.row_ (n := 6) (z := nv 0) (bytes := 8) Try.underlying74 (by kernel_rfl) rfl (by omega) (by omega) ?_
    intro w6 hq k6
    have hq : Blk w6 wi.heap.size TId ((sixK z i 0).map nv) := by rw [sixK, List.map_replicate]; exact hq
    (conv => whnf)
    refine VLoop.by_ tt_ok (S := Nat) (fun j => [(6, .slice A1 28 c1), (7, .slice A2 28 c2), (8, .slice Al 64 cl), (12, .slice Al' 32 cl'), (13, .slice Ar 32 cr), (14, .slice (some ⟨wd.heap.size, 0, none⟩) 48 48), (15, .slice (some ⟨w12.heap.size, 0, none⟩) 32 32), (16, .int .i64 ((k + 1 : Nat) : Int)), (18, .slice A5 48 c5), (19, .slice Ao (4 * i) co), (20, .int .i64 i), (21, .slice (some ⟨wi.heap.size, 0, none⟩) 6 6), (22, .int .i64 j)])
      (fun j w' => j ≤ 6 ∧ Blk w' wi.heap.size TId ((sixK z i j).map nv) ∧ Keep No wi w') (fun j => 6 - j) 0
      ⟨rfl, rfl, rfl, rfl, rfl, rfl, rfl, rfl, rfl, rfl, rfl, rfl, rfl, trivial⟩ ⟨by omega, hq, k6⟩ ?_
    rintro j wj ⟨hj, hq, kj⟩
    have hlt := Blk.lt hq
    have hsl := sixK_len z i j
    (conv => whnf)
    refine VCmp.mk (fun h => ?_) (fun h => ?_) <;> (conv => whnf)
    · have hR' := (hR.keepNo ki).keepNo kj
      have hK' := (hK.keepNo ki).keepNo kj
      have q2 : (4 * (i : Int) + (j : Int) + 31).tmod 32 = (((4 * i + j + 31) % 32 : Nat) : Int) := by rw [Int.tmod_eq_emod_of_nonneg (by omega)]; omega
      have hzz := hzat i j (by omega) (by omega)
      refine VDraw.by_ tt_ok rfl (.take 0 (.take 1 (.take 2 (.take 3 (.take 4 (.take 5 (.take 6 (.take 7 (.take 8 (.take 9 (.take 10 (.take 11 (.take 12 (.take 13 (.take 14 (.take 15 (.take 16 (.take 17 (.take 18 (.take 19 (.take 20 (.one 21 .done)))))))))))))))))))))) (by decide +kernel) _ (fun x h1 h2 h3 h4 => Keep.ofHeap h1 h2 h3 h4) (fun wd hd kd => ?_)
      have kj := kj.trans kd
      have hq := hq.keepNo kd
      (conv => whnf)
      refine VRes.i64 (by omega) ?_; (conv => whnf)
      refine VRes.i64 (by omega) ?_; (conv => whnf)
      refine VRes.i64 (by omega) ?_; (conv => whnf)
      refine VReq.mk (by omega) ?_
      refine VRes.to (congrArg (Value.int .i64) q2) ?_
      (conv => whnf)
      refine VIdx.sl (hR') ((4 * i + j + 31) % 32) (by first | rfl | omega) (by omega) (fun b_ o_ hA_ hc_ => ?_); (conv => whnf); refine VLoad.keep hc_ ?_; (conv => whnf)
      refine VRes.i64 (by omega) ?_; (conv => whnf)
      refine VRes.i64 (by omega) ?_; (conv => whnf)
      refine VIdx.sl (hK') (6 * i + j) (by first | rfl | omega) (by omega) (fun b_ o_ hA_ hc_ => ?_); (conv => whnf); refine VLoad.keep hc_ ?_; (conv => whnf)
      refine VRes.xor8 rfl ?_
      rw [← hzz]
      have hz8 := (z.getD (6 * i + j) 0).toNat_lt
      (conv => whnf)
      refine VRes.i64 (by omega) ?_
      (conv => whnf)
      refine VIdx.one j rfl (by omega) rfl ?_
      (conv => whnf)
      refine VStore.one hq (by rw [List.length_map, hsl]; omega) ?_
      intro w9 hq9 k9 _
      have kj := kj.fresh_ k9 (Nat.le_refl _)
      (conv => whnf)
      refine VOwe.to (fun _ => True) (fun h => absurd h (by decide +kernel)) trivial ?_; (conv => whnf)
      refine VRes.i64 (by omega) ?_; (conv => whnf)
      exact ⟨j + 1, ⟨rfl, rfl, rfl, rfl, rfl, rfl, rfl, rfl, rfl, rfl, rfl, rfl, rfl, trivial⟩, ⟨by omega, by rw [sixK, List.map_set]; simpa [nv] using hq9, kj⟩, by omega⟩
    obtain rfl : j = 6 := by omega
    obtain ⟨s0, hs0⟩ : ∃ s, s = (z.getD (6 * i + 0) 0).toNat := ⟨_, rfl⟩
    obtain ⟨s1, hs1⟩ : ∃ s, s = (z.getD (6 * i + 1) 0).toNat := ⟨_, rfl⟩
    obtain ⟨s2, hs2⟩ : ∃ s, s = (z.getD (6 * i + 2) 0).toNat := ⟨_, rfl⟩
    obtain ⟨s3, hs3⟩ : ∃ s, s = (z.getD (6 * i + 3) 0).toNat := ⟨_, rfl⟩
    obtain ⟨s4, hs4⟩ : ∃ s, s = (z.getD (6 * i + 4) 0).toNat := ⟨_, rfl⟩
    obtain ⟨s5, hs5⟩ : ∃ s, s = (z.getD (6 * i + 5) 0).toNat := ⟨_, rfl⟩
    rw [sixK_all, ← hs0, ← hs1, ← hs2, ← hs3, ← hs4, ← hs5] at hq
    have b0 : s0 ≤ 1 := by rw [hs0]; exact hzb.at_ _
    have b1 : s1 ≤ 1 := by rw [hs1]; exact hzb.at_ _
    have b2 : s2 ≤ 1 := by rw [hs2]; exact hzb.at_ _
    have b3 : s3 ≤ 1 := by rw [hs3]; exact hzb.at_ _
    have b4 : s4 ≤ 1 := by rw [hs4]; exact hzb.at_ _
    have b5 : s5 ≤ 1 := by rw [hs5]; exact hzb.at_ _
    have hv : (boxL i).getD (16 * (2 * s0 + s5) + (8 * s1 + 4 * s2 + 2 * s3 + s4)) 0 = (sVal i (sixP z i)).toNat := by
      rw [boxL_at i (2 * s0 + s5) (8 * s1 + 4 * s2 + 2 * s3 + s4) (by omega) (by omega) (by omega)]
      unfold sVal sRow sCol
      rw [sixP_at z i 0 (by omega), sixP_at z i 1 (by omega), sixP_at z i 2 (by omega), sixP_at z i 3 (by omega), sixP_at z i 4 (by omega), sixP_at z i 5 (by omega), ← hs0, ← hs1, ← hs2, ← hs3, ← hs4, ← hs5]
    refine VDraw.by_ tt_ok rfl (.take 0 (.take 2 (.take 3 (.take 4 (.take 5 (.take 6 (.take 7 (.take 8 (.take 9 (.take 10 (.take 11 (.take 12 (.take 13 (.take 14 (.take 15 (.take 16 (.take 17 (.take 18 (.take 19 (.take 20 (.take 21 (.take 22 (.take 23 (.take 24 (.take 25 (.take 26 (.take 27 (.take 28 (.take 29 (.one 1 (.take 30 (.take 31 (.take 32 .done))))))))))))))))))))))))))))))))) (by decide +kernel) _ (fun x h1 h2 h3 h4 => Keep.ofHeap h1 h2 h3 h4) (fun wd hd kd => ?_)
    (conv => whnf)
    refine VIdx.one 0 rfl (by omega) rfl ?_
    (conv => whnf)
    refine VLoad.keep (hq.cell 0) ?_
    (conv => whnf)
    refine VRes.i64 (by omega) ?_; (conv => whnf)
    refine VIdx.one 5 rfl (by omega) rfl ?_
    (conv => whnf)
    refine VLoad.keep (hq.cell 5) ?_
    (conv => whnf)
    refine VRes.i64 (by omega) ?_; (conv => whnf)
    refine VRes.i64 (by omega) ?_; (conv => whnf)
    refine VIdx.one 1 rfl (by omega) rfl ?_
    (conv => whnf)
    refine VLoad.keep (hq.cell 1) ?_
    (conv => whnf)
    refine VRes.i64 (by omega) ?_; (conv => whnf)
    refine VRes.i64 (by omega) ?_; (conv => whnf)
    refine VIdx.one 2 rfl (by omega) rfl ?_
    (conv => whnf)
    refine VLoad.keep (hq.cell 2) ?_
    (conv => whnf)
    refine VRes.i64 (by omega) ?_; (conv => whnf)
    refine VRes.i64 (by omega) ?_; (conv => whnf)
    refine VIdx.one 3 rfl (by omega) rfl ?_
    (conv => whnf)
    refine VLoad.keep (hq.cell 3) ?_
    (conv => whnf)
    refine VRes.i64 (by omega) ?_; (conv => whnf)
    refine VRes.i64 (by omega) ?_; (conv => whnf)
    refine VIdx.one 4 rfl (by omega) rfl ?_
    (conv => whnf)
    refine VLoad.keep (hq.cell 4) ?_
    (conv => whnf)
    refine VRes.i64 (by omega) ?_; (conv => whnf)
    refine (box_ok _ (i := i) (by omega)).mono ?_
    rintro v w4 ⟨⟨A9, c9, rfl, hbx⟩, k9⟩
    have kj9 := (kj.trans kd).trans k9
    have hown := hown.keepNo kj9
    have ki := ki.trans kj9
    (conv => whnf)
    refine VOwe.to (fun y => Keep No w4 y) (fun _ y hy => (kd.trans k9).trans hy) (Keep.refl _ _) ?_
    (conv => whnf)
    refine VIdx.nv hbx (16 * (2 * s0 + s5) + (8 * s1 + 4 * s2 + 2 * s3 + s4)) (by omega) (by omega) (fun b_ o_ hA_ hc_ => ?_)
    (conv => whnf)
    refine VLoad.keep hc_ ?_
    rw [hv]
    obtain ⟨V, hV⟩ : ∃ V, V = sVal i (sixP z i) := ⟨_, rfl⟩
    rw [← hV]
    have hV8 := V.toNat_lt
    (conv => whnf)
    refine VReq.mk (by omega) ?_
    refine VRes.shrN (k := .i64) (N := V.toNat) (s := 3) rfl rfl (by decide) ?_
    (conv => whnf)
    refine VRes.andNat (N := V.toNat / 2 ^ 3) (M := 1) (R := V.toNat / 2 ^ 3 % 2) rfl rfl (by omega) (by omega) (Nat.and_one_is_mod _) ?_
    (conv => whnf)
    refine VRes.byte (N := V.toNat / 2 ^ 3 % 2) rfl ?_
    (conv => whnf)
    refine VReq.mk (by omega) ?_
    refine VRes.shrN (k := .i64) (N := V.toNat) (s := 2) rfl rfl (by decide) ?_
    (conv => whnf)
    refine VRes.andNat (N := V.toNat / 2 ^ 2) (M := 1) (R := V.toNat / 2 ^ 2 % 2) rfl rfl (by omega) (by omega) (Nat.and_one_is_mod _) ?_
    (conv => whnf)
    refine VRes.byte (N := V.toNat / 2 ^ 2 % 2) rfl ?_
    (conv => whnf)
    refine VReq.mk (by omega) ?_
    refine VRes.shrN (k := .i64) (N := V.toNat) (s := 1) rfl rfl (by decide) ?_
    (conv => whnf)
    refine VRes.andNat (N := V.toNat / 2 ^ 1) (M := 1) (R := V.toNat / 2 ^ 1 % 2) rfl rfl (by omega) (by omega) (Nat.and_one_is_mod _) ?_
    (conv => whnf)
    refine VRes.byte (N := V.toNat / 2 ^ 1 % 2) rfl ?_
    (conv => whnf)
    refine VRes.andNat (N := V.toNat) (M := 1) (R := V.toNat % 2) rfl rfl (by omega) (by omega) (Nat.and_one_is_mod _) ?_
    (conv => whnf)
    refine VRes.byte (N := V.toNat % 2) rfl ?_
    (conv => whnf)
    refine VFill.by_ rfl ?_; (conv => whnf)
    refine ⟨fun w10 hb10 k10 => ?_⟩
    have ki := ki.trans k10
    have hown := hown.keepNo k10
    have hys : Sl w10 1 (some ⟨w4.heap.size, 0, none⟩) 4 ((nibP V).map vb) := Sl.ofBlk (n := 4) (size := 1) (by rw [nibP_eq]; exact hb10) (by rw [List.length_map, nibP_len])
    (conv => whnf)
    refine appBd (w0 := w5) ki hown hys (by omega) ?_
    intro A11 c11 w11 ho11 k11 _
    (conv => whnf)
    refine VRes.i64 (by omega) ?_; (conv => whnf)
    exact ⟨(i + 1, A11, c11), ⟨rfl, rfl, rfl, rfl, rfl, rfl, rfl, rfl, rfl, rfl, rfl, trivial⟩, ⟨by omega, by rw [boxK_snoc, ← hV]; exact ho11, k11⟩, by dsimp only; omega⟩
  refine VCmp.mk (fun hr => ?_) (fun hr3 => ?_) <;> (conv => whnf)
  · have hsh : shiftP (k + 1) = 1 := by unfold shiftP; rw [if_pos (by omega)]
    refine (turn_ok w' (k := 1) hC hcc (by omega) (by omega)).mono ?_
    rintro v w1 ⟨⟨A1, c1, rfl, ho1⟩, k1⟩
    have hC := Sl.ofOwn ho1
    have hcc := ho1.le
    have kk := kk.keepNo k1; have hD := hD.keepNo k1; have hL := hL.keepNo k1; have hR := hR.keepNo k1; have hip := hip.keepNo k1; have hpc := hpc.keepNo k1; have hpp := hpp.keepNo k1
    (conv => whnf)
    refine (turn_ok w1 (k := 1) hD hcd (by omega) (by omega)).mono ?_
    rintro v w2 ⟨⟨A2, c2, rfl, ho2⟩, k2⟩
    have hD := Sl.ofOwn ho2
    have hcd := ho2.le
    have kk := kk.keepNo k2; have hC := hC.keepNo k2; have hL := hL.keepNo k2; have hR := hR.keepNo k2; have hip := hip.keepNo k2; have hpc := hpc.keepNo k2; have hpp := hpp.keepNo k2
    have hC : Sl w2 1 A1 28 ((cdP key (k + 1)).1.map vb) := by
      rw [show (cdP key (k + 1)).1 = turnP (cdP key k).1 1 from by show turnP _ (shiftP (k + 1)) = _; rw [hsh]]; exact hC
    have hD : Sl w2 1 A2 28 ((cdP key (k + 1)).2.map vb) := by
      rw [show (cdP key (k + 1)).2 = turnP (cdP key k).2 1 from by show turnP _ (shiftP (k + 1)) = _; rw [hsh]]; exact hD
    (conv => whnf)
    refine (copy_ok w2 hC (by omega)).mono ?_
    rintro v w3 ⟨A3, c3, rfl, ho3, k3⟩
    (conv => whnf)
    refine appBd (w0 := w2) k3 ho3 (hD.keepNo k3) (by omega) ?_
    intro A4 c4 w4 ho4 k4 _
    have kk := kk.keepNo k4; have hC := hC.keepNo k4; have hD := hD.keepNo k4; have hL := hL.keepNo k4; have hR := hR.keepNo k4; have hip := hip.keepNo k4; have hpc := hpc.keepNo k4; have hpp := hpp.keepNo k4
    (conv => whnf)
    refine (pick_ok w4 (Sl.ofOwn ho4) hpc (by omega) (by omega) (fun i hi => chosen_range i hi)).mono ?_
    rintro v w5 ⟨⟨A5, c5, rfl, ho5⟩, k5⟩
    have kk := kk.keepNo k5; have hC := hC.keepNo k5; have hD := hD.keepNo k5; have hL := hL.keepNo k5; have hR := hR.keepNo k5; have hip := hip.keepNo k5; have hpc := hpc.keepNo k5; have hpp := hpp.keepNo k5
    have hK : Sl w5 1 A5 48 ((keyP key (k + 1)).map vb) := Sl.ofOwn ho5
    (conv => whnf)
    refine VLoop.by_ tt_ok (S := Nat × Option Addr × Nat) (fun | (i, Ao, co) => [(6, .slice A1 28 c1), (7, .slice A2 28 c2), (8, .slice Al 64 cl), (12, .slice Al' 32 cl'), (13, .slice Ar 32 cr), (14, .slice (some ⟨wd.heap.size, 0, none⟩) 48 48), (15, .slice (some ⟨w12.heap.size, 0, none⟩) 32 32), (16, .int .i64 ((k + 1 : Nat) : Int)), (18, .slice A5 48 c5), (19, .slice Ao (4 * i) co), (20, .int .i64 i)])
      (fun | (i, Ao, co) => fun w' => i ≤ 8 ∧ Own w' w5.heap.size T8 1 Ao (4 * i) co ((boxK z i).map vb) ∧ Keep No w5 w') (fun | (i, _) => 8 - i)
      (0, none, 0) ⟨rfl, rfl, rfl, rfl, rfl, rfl, rfl, rfl, rfl, rfl, rfl, trivial⟩ ⟨by omega, Own.nil _ _ _ _, Keep.refl _ _⟩ ?_
    rintro ⟨i, Ao, co⟩ wi ⟨hi, hown, ki⟩
    (conv => whnf)
    refine VCmp.mk (fun h => ?_) (fun h => ?_) <;> (conv => whnf)
    rotate_left 1
    · obtain rfl : i = 8 := by omega
      have kk := kk.keepNo ki; have hC := hC.keepNo ki; have hD := hD.keepNo ki; have hL := hL.keepNo ki; have hR := hR.keepNo ki; have hip := hip.keepNo ki; have hpc := hpc.keepNo ki; have hpp := hpp.keepNo ki
      refine (pick_ok wi (m := 4 * 8) (Sl.ofOwn hown) hpp (by omega) (by omega) (fun i hi => mixed_range i hi)).mono ?_
      rintro v w7 ⟨⟨A7, c7, rfl, ho7⟩, k7⟩
      have kk := kk.keepNo k7; have hC := hC.keepNo k7; have hD := hD.keepNo k7; have hL := hL.keepNo k7; have hR := hR.keepNo k7; have hip := hip.keepNo k7; have hpc := hpc.keepNo k7; have hpp := hpp.keepNo k7
      have hF := Sl.ofOwn ho7
      obtain ⟨f, hf⟩ : ∃ f, f = putP (boxK z 8) (fun i => mixedL.getD i 0) 32 := ⟨_, rfl⟩
      rw [← hf] at hF
      (conv => whnf)
      refine VMake.row_ (n := 32) (z := vb 0) (bytes := 1) Try.underlying22 (by kernel_rfl) rfl (by omega) (by omega) ?_
      intro w8 hq k8
      rw [← xorK_zero (roundsP key x k).1 f 32] at hq
      (conv => whnf)
      refine VLoop.by_ tt_ok (S := Nat) (fun t => [(6, .slice A1 28 c1), (7, .slice A2 28 c2), (8, .slice Al 64 cl), (12, .slice Al' 32 cl'), (13, .slice Ar 32 cr), (14, .slice (some ⟨wd.heap.size, 0, none⟩) 48 48), (15, .slice (some ⟨w12.heap.size, 0, none⟩) 32 32), (16, .int .i64 ((k + 1 : Nat) : Int)), (24, .slice A7 32 c7), (25, .slice (some ⟨w7.heap.size, 0, none⟩) 32 32), (26, .int .i64 t)])
        (fun t w' => t ≤ 32 ∧ Blk w' w7.heap.size T8 ((xorK (roundsP key x k).1 f 32 t).map vb) ∧ Keep No w7 w') (fun t => 32 - t) 0
        ⟨rfl, rfl, rfl, rfl, rfl, rfl, rfl, rfl, rfl, rfl, rfl, trivial⟩ ⟨by omega, hq, k8⟩ ?_
      rintro t wt ⟨ht, hq, kt⟩
      have hlt := Blk.lt hq
      (conv => whnf)
      refine VCmp.mk (fun h => ?_) (fun h => ?_) <;> (conv => whnf)
      rotate_left 1
      · obtain rfl : t = 32 := by omega
        rw [xorK_all] at hq
        have kk := kk.trans kt
        refine VRes.i64 (by omega) ?_; (conv => whnf)
        exact ⟨(k + 1, (A1, c1), (A2, c2), (Ar, cr), some ⟨w7.heap.size, 0, none⟩, 32), ⟨rfl, rfl, rfl, rfl, rfl, rfl, rfl, rfl, trivial⟩, ⟨by omega, hC.keepNo kt, hcc, hD.keepNo kt, hcd, hR.keepNo kt, Sl.ofBlk (n := 32) (size := 1) (by rw [hf, hz] at hq; exact hq) (by rw [List.length_map]; exact xorP_len _ _ _), kk⟩, by dsimp only; omega⟩
      have hL' := hL.keepNo kt
      have hF' := hF.keepNo kt
      refine VDraw.by_ tt_ok rfl (.take 0 (.take 1 (.take 2 (.take 3 (.take 4 (.take 5 (.take 6 (.take 7 (.take 8 (.take 9 (.take 10 (.take 11 (.one 12 .done))))))))))))) (by decide +kernel) _ (fun x h1 h2 h3 h4 => Keep.ofHeap h1 h2 h3 h4) (fun wd hd kd => ?_)
      have kt := kt.trans kd
      have hq := hq.keepNo kd
      (conv => whnf)
      refine VIdx.sl (hL') (t) (by first | rfl | omega) (by omega) (fun b_ o_ hA_ hc_ => ?_); (conv => whnf); refine VLoad.keep hc_ ?_; (conv => whnf)
      refine VIdx.sl (hF') (t) (by first | rfl | omega) (by omega) (fun b_ o_ hA_ hc_ => ?_); (conv => whnf); refine VLoad.keep hc_ ?_; (conv => whnf)
      refine VRes.xor8 rfl ?_
      (conv => whnf)
      refine VIdx.one t rfl (by omega) rfl ?_
      (conv => whnf)
      refine VStore.one hq (by rw [List.length_map]; simp [xorK]; omega) ?_
      intro w9 hq9 k9 _
      have kt := kt.fresh_ k9 (Nat.le_refl _)
      (conv => whnf)
      refine VOwe.to (fun _ => True) (fun h => absurd h (by decide +kernel)) trivial ?_; (conv => whnf)
      refine VRes.i64 (by omega) ?_; (conv => whnf)
      exact ⟨t + 1, ⟨rfl, rfl, rfl, rfl, rfl, rfl, rfl, rfl, rfl, rfl, rfl, trivial⟩, ⟨by omega, by rw [← xorK_set, List.map_set]; simpa [vb] using hq9, kt⟩, by omega⟩
    refine VMake.row_ (n := 6) (z := nv 0) (bytes := 8) Try.underlying74 (by kernel_rfl) rfl (by omega) (by omega) ?_
    intro w6 hq k6
    have hq : Blk w6 wi.heap.size TId ((sixK z i 0).map nv) := by rw [sixK, List.map_replicate]; exact hq
    (conv => whnf)
    refine VLoop.by_ tt_ok (S := Nat) (fun j => [(6, .slice A1 28 c1), (7, .slice A2 28 c2), (8, .slice Al 64 cl), (12, .slice Al' 32 cl'), (13, .slice Ar 32 cr), (14, .slice (some ⟨wd.heap.size, 0, none⟩) 48 48), (15, .slice (some ⟨w12.heap.size, 0, none⟩) 32 32), (16, .int .i64 ((k + 1 : Nat) : Int)), (18, .slice A5 48 c5), (19, .slice Ao (4 * i) co), (20, .int .i64 i), (21, .slice (some ⟨wi.heap.size, 0, none⟩) 6 6), (22, .int .i64 j)])
      (fun j w' => j ≤ 6 ∧ Blk w' wi.heap.size TId ((sixK z i j).map nv) ∧ Keep No wi w') (fun j => 6 - j) 0
      ⟨rfl, rfl, rfl, rfl, rfl, rfl, rfl, rfl, rfl, rfl, rfl, rfl, rfl, trivial⟩ ⟨by omega, hq, k6⟩ ?_
    rintro j wj ⟨hj, hq, kj⟩
    have hlt := Blk.lt hq
    have hsl := sixK_len z i j
    (conv => whnf)
    refine VCmp.mk (fun h => ?_) (fun h => ?_) <;> (conv => whnf)
    · have hR' := (hR.keepNo ki).keepNo kj
      have hK' := (hK.keepNo ki).keepNo kj
      have q2 : (4 * (i : Int) + (j : Int) + 31).tmod 32 = (((4 * i + j + 31) % 32 : Nat) : Int) := by rw [Int.tmod_eq_emod_of_nonneg (by omega)]; omega
      have hzz := hzat i j (by omega) (by omega)
      refine VDraw.by_ tt_ok rfl (.take 0 (.take 1 (.take 2 (.take 3 (.take 4 (.take 5 (.take 6 (.take 7 (.take 8 (.take 9 (.take 10 (.take 11 (.take 12 (.take 13 (.take 14 (.take 15 (.take 16 (.take 17 (.take 18 (.take 19 (.take 20 (.one 21 .done)))))))))))))))))))))) (by decide +kernel) _ (fun x h1 h2 h3 h4 => Keep.ofHeap h1 h2 h3 h4) (fun wd hd kd => ?_)
      have kj := kj.trans kd
      have hq := hq.keepNo kd
      (conv => whnf)
      refine VRes.i64 (by omega) ?_; (conv => whnf)
      refine VRes.i64 (by omega) ?_; (conv => whnf)
      refine VRes.i64 (by omega) ?_; (conv => whnf)
      refine VReq.mk (by omega) ?_
      refine VRes.to (congrArg (Value.int .i64) q2) ?_
      (conv => whnf)
      refine VIdx.sl (hR') ((4 * i + j + 31) % 32) (by first | rfl | omega) (by omega) (fun b_ o_ hA_ hc_ => ?_); (conv => whnf); refine VLoad.keep hc_ ?_; (conv => whnf)
      refine VRes.i64 (by omega) ?_; (conv => whnf)
      refine VRes.i64 (by omega) ?_; (conv => whnf)
      refine VIdx.sl (hK') (6 * i + j) (by first | rfl | omega) (by omega) (fun b_ o_ hA_ hc_ => ?_); (conv => whnf); refine VLoad.keep hc_ ?_; (conv => whnf)
      refine VRes.xor8 rfl ?_
      rw [← hzz]
      have hz8 := (z.getD (6 * i + j) 0).toNat_lt
      (conv => whnf)
      refine VRes.i64 (by omega) ?_
      (conv => whnf)
      refine VIdx.one j rfl (by omega) rfl ?_
      (conv => whnf)
      refine VStore.one hq (by rw [List.length_map, hsl]; omega) ?_
      intro w9 hq9 k9 _
      have kj := kj.fresh_ k9 (Nat.le_refl _)
      (conv => whnf)
      refine VOwe.to (fun _ => True) (fun h => absurd h (by decide +kernel)) trivial ?_; (conv => whnf)
      refine VRes.i64 (by omega) ?_; (conv => whnf)
      exact ⟨j + 1, ⟨rfl, rfl, rfl, rfl, rfl, rfl, rfl, rfl, rfl, rfl, rfl, rfl, rfl, trivial⟩, ⟨by omega, by rw [sixK, List.map_set]; simpa [nv] using hq9, kj⟩, by omega⟩
    obtain rfl : j = 6 := by omega
    obtain ⟨s0, hs0⟩ : ∃ s, s = (z.getD (6 * i + 0) 0).toNat := ⟨_, rfl⟩
    obtain ⟨s1, hs1⟩ : ∃ s, s = (z.getD (6 * i + 1) 0).toNat := ⟨_, rfl⟩
    obtain ⟨s2, hs2⟩ : ∃ s, s = (z.getD (6 * i + 2) 0).toNat := ⟨_, rfl⟩
    obtain ⟨s3, hs3⟩ : ∃ s, s = (z.getD (6 * i + 3) 0).toNat := ⟨_, rfl⟩
    obtain ⟨s4, hs4⟩ : ∃ s, s = (z.getD (6 * i + 4) 0).toNat := ⟨_, rfl⟩
    obtain ⟨s5, hs5⟩ : ∃ s, s = (z.getD (6 * i + 5) 0).toNat := ⟨_, rfl⟩
    rw [sixK_all, ← hs0, ← hs1, ← hs2, ← hs3, ← hs4, ← hs5] at hq
    have b0 : s0 ≤ 1 := by rw [hs0]; exact hzb.at_ _
    have b1 : s1 ≤ 1 := by rw [hs1]; exact hzb.at_ _
    have b2 : s2 ≤ 1 := by rw [hs2]; exact hzb.at_ _
    have b3 : s3 ≤ 1 := by rw [hs3]; exact hzb.at_ _
    have b4 : s4 ≤ 1 := by rw [hs4]; exact hzb.at_ _
    have b5 : s5 ≤ 1 := by rw [hs5]; exact hzb.at_ _
    have hv : (boxL i).getD (16 * (2 * s0 + s5) + (8 * s1 + 4 * s2 + 2 * s3 + s4)) 0 = (sVal i (sixP z i)).toNat := by
      rw [boxL_at i (2 * s0 + s5) (8 * s1 + 4 * s2 + 2 * s3 + s4) (by omega) (by omega) (by omega)]
      unfold sVal sRow sCol
      rw [sixP_at z i 0 (by omega), sixP_at z i 1 (by omega), sixP_at z i 2 (by omega), sixP_at z i 3 (by omega), sixP_at z i 4 (by omega), sixP_at z i 5 (by omega), ← hs0, ← hs1, ← hs2, ← hs3, ← hs4, ← hs5]
    refine VDraw.by_ tt_ok rfl (.take 0 (.take 2 (.take 3 (.take 4 (.take 5 (.take 6 (.take 7 (.take 8 (.take 9 (.take 10 (.take 11 (.take 12 (.take 13 (.take 14 (.take 15 (.take 16 (.take 17 (.take 18 (.take 19 (.take 20 (.take 21 (.take 22 (.take 23 (.take 24 (.take 25 (.take 26 (.take 27 (.take 28 (.take 29 (.one 1 (.take 30 (.take 31 (.take 32 .done))))))))))))))))))))))))))))))))) (by decide +kernel) _ (fun x h1 h2 h3 h4 => Keep.ofHeap h1 h2 h3 h4) (fun wd hd kd => ?_)
    (conv => whnf)
    refine VIdx.one 0 rfl (by omega) rfl ?_
    (conv => whnf)
    refine VLoad.keep (hq.cell 0) ?_
    (conv => whnf)
    refine VRes.i64 (by omega) ?_; (conv => whnf)
    refine VIdx.one 5 rfl (by omega) rfl ?_
    (conv => whnf)
    refine VLoad.keep (hq.cell 5) ?_
    (conv => whnf)
    refine VRes.i64 (by omega) ?_; (conv => whnf)
    refine VRes.i64 (by omega) ?_; (conv => whnf)
    refine VIdx.one 1 rfl (by omega) rfl ?_
    (conv => whnf)
    refine VLoad.keep (hq.cell 1) ?_
    (conv => whnf)
    refine VRes.i64 (by omega) ?_; (conv => whnf)
    refine VRes.i64 (by omega) ?_; (conv => whnf)
    refine VIdx.one 2 rfl (by omega) rfl ?_
    (conv => whnf)
    refine VLoad.keep (hq.cell 2) ?_
    (conv => whnf)
    refine VRes.i64 (by omega) ?_; (conv => whnf)
    refine VRes.i64 (by omega) ?_; (conv => whnf)
    refine VIdx.one 3 rfl (by omega) rfl ?_
    (conv => whnf)
    refine VLoad.keep (hq.cell 3) ?_
    (conv => whnf)
    refine VRes.i64 (by omega) ?_; (conv => whnf)
    refine VRes.i64 (by omega) ?_; (conv => whnf)
    refine VIdx.one 4 rfl (by omega) rfl ?_
    (conv => whnf)
    refine VLoad.keep (hq.cell 4) ?_
    (conv => whnf)
    refine VRes.i64 (by omega) ?_; (conv => whnf)
    refine (box_ok _ (i := i) (by omega)).mono ?_
    rintro v w4 ⟨⟨A9, c9, rfl, hbx⟩, k9⟩
    have kj9 := (kj.trans kd).trans k9
    have hown := hown.keepNo kj9
    have ki := ki.trans kj9
    (conv => whnf)
    refine VOwe.to (fun y => Keep No w4 y) (fun _ y hy => (kd.trans k9).trans hy) (Keep.refl _ _) ?_
    (conv => whnf)
    refine VIdx.nv hbx (16 * (2 * s0 + s5) + (8 * s1 + 4 * s2 + 2 * s3 + s4)) (by omega) (by omega) (fun b_ o_ hA_ hc_ => ?_)
    (conv => whnf)
    refine VLoad.keep hc_ ?_
    rw [hv]
    obtain ⟨V, hV⟩ : ∃ V, V = sVal i (sixP z i) := ⟨_, rfl⟩
    rw [← hV]
    have hV8 := V.toNat_lt
    (conv => whnf)
    refine VReq.mk (by omega) ?_
    refine VRes.shrN (k := .i64) (N := V.toNat) (s := 3) rfl rfl (by decide) ?_
    (conv => whnf)
    refine VRes.andNat (N := V.toNat / 2 ^ 3) (M := 1) (R := V.toNat / 2 ^ 3 % 2) rfl rfl (by omega) (by omega) (Nat.and_one_is_mod _) ?_
    (conv => whnf)
    refine VRes.byte (N := V.toNat / 2 ^ 3 % 2) rfl ?_
    (conv => whnf)
    refine VReq.mk (by omega) ?_
    refine VRes.shrN (k := .i64) (N := V.toNat) (s := 2) rfl rfl (by decide) ?_
    (conv => whnf)
    refine VRes.andNat (N := V.toNat / 2 ^ 2) (M := 1) (R := V.toNat / 2 ^ 2 % 2) rfl rfl (by omega) (by omega) (Nat.and_one_is_mod _) ?_
    (conv => whnf)
    refine VRes.byte (N := V.toNat / 2 ^ 2 % 2) rfl ?_
    (conv => whnf)
    refine VReq.mk (by omega) ?_
    refine VRes.shrN (k := .i64) (N := V.toNat) (s := 1) rfl rfl (by decide) ?_
    (conv => whnf)
    refine VRes.andNat (N := V.toNat / 2 ^ 1) (M := 1) (R := V.toNat / 2 ^ 1 % 2) rfl rfl (by omega) (by omega) (Nat.and_one_is_mod _) ?_
    (conv => whnf)
    refine VRes.byte (N := V.toNat / 2 ^ 1 % 2) rfl ?_
    (conv => whnf)
    refine VRes.andNat (N := V.toNat) (M := 1) (R := V.toNat % 2) rfl rfl (by omega) (by omega) (Nat.and_one_is_mod _) ?_
    (conv => whnf)
    refine VRes.byte (N := V.toNat % 2) rfl ?_
    (conv => whnf)
    refine VFill.by_ rfl ?_; (conv => whnf)
    refine ⟨fun w10 hb10 k10 => ?_⟩
    have ki := ki.trans k10
    have hown := hown.keepNo k10
    have hys : Sl w10 1 (some ⟨w4.heap.size, 0, none⟩) 4 ((nibP V).map vb) := Sl.ofBlk (n := 4) (size := 1) (by rw [nibP_eq]; exact hb10) (by rw [List.length_map, nibP_len])
    (conv => whnf)
    refine appBd (w0 := w5) ki hown hys (by omega) ?_
    intro A11 c11 w11 ho11 k11 _
    (conv => whnf)
    refine VRes.i64 (by omega) ?_; (conv => whnf)
    exact ⟨(i + 1, A11, c11), ⟨rfl, rfl, rfl, rfl, rfl, rfl, rfl, rfl, rfl, rfl, rfl, trivial⟩, ⟨by omega, by rw [boxK_snoc, ← hV]; exact ho11, k11⟩, by dsimp only; omega⟩
  have hsh : shiftP (k + 1) = 2 := by unfold shiftP; rw [if_neg (by omega)]
  refine (turn_ok w' (k := 2) hC hcc (by omega) (by omega)).mono ?_
  rintro v w1 ⟨⟨A1, c1, rfl, ho1⟩, k1⟩
  have hC := Sl.ofOwn ho1
  have hcc := ho1.le
  have kk := kk.keepNo k1; have hD := hD.keepNo k1; have hL := hL.keepNo k1; have hR := hR.keepNo k1; have hip := hip.keepNo k1; have hpc := hpc.keepNo k1; have hpp := hpp.keepNo k1
  (conv => whnf)
  refine (turn_ok w1 (k := 2) hD hcd (by omega) (by omega)).mono ?_
  rintro v w2 ⟨⟨A2, c2, rfl, ho2⟩, k2⟩
  have hD := Sl.ofOwn ho2
  have hcd := ho2.le
  have kk := kk.keepNo k2; have hC := hC.keepNo k2; have hL := hL.keepNo k2; have hR := hR.keepNo k2; have hip := hip.keepNo k2; have hpc := hpc.keepNo k2; have hpp := hpp.keepNo k2
  have hC : Sl w2 1 A1 28 ((cdP key (k + 1)).1.map vb) := by
    rw [show (cdP key (k + 1)).1 = turnP (cdP key k).1 2 from by show turnP _ (shiftP (k + 1)) = _; rw [hsh]]; exact hC
  have hD : Sl w2 1 A2 28 ((cdP key (k + 1)).2.map vb) := by
    rw [show (cdP key (k + 1)).2 = turnP (cdP key k).2 2 from by show turnP _ (shiftP (k + 1)) = _; rw [hsh]]; exact hD
  (conv => whnf)
  refine (copy_ok w2 hC (by omega)).mono ?_
  rintro v w3 ⟨A3, c3, rfl, ho3, k3⟩
  (conv => whnf)
  refine appBd (w0 := w2) k3 ho3 (hD.keepNo k3) (by omega) ?_
  intro A4 c4 w4 ho4 k4 _
  have kk := kk.keepNo k4; have hC := hC.keepNo k4; have hD := hD.keepNo k4; have hL := hL.keepNo k4; have hR := hR.keepNo k4; have hip := hip.keepNo k4; have hpc := hpc.keepNo k4; have hpp := hpp.keepNo k4
  (conv => whnf)
  refine (pick_ok w4 (Sl.ofOwn ho4) hpc (by omega) (by omega) (fun i hi => chosen_range i hi)).mono ?_
  rintro v w5 ⟨⟨A5, c5, rfl, ho5⟩, k5⟩
  have kk := kk.keepNo k5; have hC := hC.keepNo k5; have hD := hD.keepNo k5; have hL := hL.keepNo k5; have hR := hR.keepNo k5; have hip := hip.keepNo k5; have hpc := hpc.keepNo k5; have hpp := hpp.keepNo k5
  have hK : Sl w5 1 A5 48 ((keyP key (k + 1)).map vb) := Sl.ofOwn ho5
  (conv => whnf)
  refine VLoop.by_ tt_ok (S := Nat × Option Addr × Nat) (fun | (i, Ao, co) => [(6, .slice A1 28 c1), (7, .slice A2 28 c2), (8, .slice Al 64 cl), (12, .slice Al' 32 cl'), (13, .slice Ar 32 cr), (14, .slice (some ⟨wd.heap.size, 0, none⟩) 48 48), (15, .slice (some ⟨w12.heap.size, 0, none⟩) 32 32), (16, .int .i64 ((k + 1 : Nat) : Int)), (18, .slice A5 48 c5), (19, .slice Ao (4 * i) co), (20, .int .i64 i)])
    (fun | (i, Ao, co) => fun w' => i ≤ 8 ∧ Own w' w5.heap.size T8 1 Ao (4 * i) co ((boxK z i).map vb) ∧ Keep No w5 w') (fun | (i, _) => 8 - i)
    (0, none, 0) ⟨rfl, rfl, rfl, rfl, rfl, rfl, rfl, rfl, rfl, rfl, rfl, trivial⟩ ⟨by omega, Own.nil _ _ _ _, Keep.refl _ _⟩ ?_
  rintro ⟨i, Ao, co⟩ wi ⟨hi, hown, ki⟩
  (conv => whnf)
  refine VCmp.mk (fun h => ?_) (fun h => ?_) <;> (conv => whnf)
  rotate_left 1
  · obtain rfl : i = 8 := by omega
    have kk := kk.keepNo ki; have hC := hC.keepNo ki; have hD := hD.keepNo ki; have hL := hL.keepNo ki; have hR := hR.keepNo ki; have hip := hip.keepNo ki; have hpc := hpc.keepNo ki; have hpp := hpp.keepNo ki
    refine (pick_ok wi (m := 4 * 8) (Sl.ofOwn hown) hpp (by omega) (by omega) (fun i hi => mixed_range i hi)).mono ?_
    rintro v w7 ⟨⟨A7, c7, rfl, ho7⟩, k7⟩
    have kk := kk.keepNo k7; have hC := hC.keepNo k7; have hD := hD.keepNo k7; have hL := hL.keepNo k7; have hR := hR.keepNo k7; have hip := hip.keepNo k7; have hpc := hpc.keepNo k7; have hpp := hpp.keepNo k7
    have hF := Sl.ofOwn ho7
    obtain ⟨f, hf⟩ : ∃ f, f = putP (boxK z 8) (fun i => mixedL.getD i 0) 32 := ⟨_, rfl⟩
    rw [← hf] at hF
    (conv => whnf)
    refine VMake.row_ (n := 32) (z := vb 0) (bytes := 1) Try.underlying22 (by kernel_rfl) rfl (by omega) (by omega) ?_
    intro w8 hq k8
    rw [← xorK_zero (roundsP key x k).1 f 32] at hq
    (conv => whnf)
    refine VLoop.by_ tt_ok (S := Nat) (fun t => [(6, .slice A1 28 c1), (7, .slice A2 28 c2), (8, .slice Al 64 cl), (12, .slice Al' 32 cl'), (13, .slice Ar 32 cr), (14, .slice (some ⟨wd.heap.size, 0, none⟩) 48 48), (15, .slice (some ⟨w12.heap.size, 0, none⟩) 32 32), (16, .int .i64 ((k + 1 : Nat) : Int)), (24, .slice A7 32 c7), (25, .slice (some ⟨w7.heap.size, 0, none⟩) 32 32), (26, .int .i64 t)])
      (fun t w' => t ≤ 32 ∧ Blk w' w7.heap.size T8 ((xorK (roundsP key x k).1 f 32 t).map vb) ∧ Keep No w7 w') (fun t => 32 - t) 0
      ⟨rfl, rfl, rfl, rfl, rfl, rfl, rfl, rfl, rfl, rfl, rfl, trivial⟩ ⟨by omega, hq, k8⟩ ?_
    rintro t wt ⟨ht, hq, kt⟩
    have hlt := Blk.lt hq
    (conv => whnf)
    refine VCmp.mk (fun h => ?_) (fun h => ?_) <;> (conv => whnf)
    rotate_left 1
    · obtain rfl : t = 32 := by omega
      rw [xorK_all] at hq
      have kk := kk.trans kt
      refine VRes.i64 (by omega) ?_; (conv => whnf)
      exact ⟨(k + 1, (A1, c1), (A2, c2), (Ar, cr), some ⟨w7.heap.size, 0, none⟩, 32), ⟨rfl, rfl, rfl, rfl, rfl, rfl, rfl, rfl, trivial⟩, ⟨by omega, hC.keepNo kt, hcc, hD.keepNo kt, hcd, hR.keepNo kt, Sl.ofBlk (n := 32) (size := 1) (by rw [hf, hz] at hq; exact hq) (by rw [List.length_map]; exact xorP_len _ _ _), kk⟩, by dsimp only; omega⟩
    have hL' := hL.keepNo kt
    have hF' := hF.keepNo kt
    refine VDraw.by_ tt_ok rfl (.take 0 (.take 1 (.take 2 (.take 3 (.take 4 (.take 5 (.take 6 (.take 7 (.take 8 (.take 9 (.take 10 (.take 11 (.one 12 .done))))))))))))) (by decide +kernel) _ (fun x h1 h2 h3 h4 => Keep.ofHeap h1 h2 h3 h4) (fun wd hd kd => ?_)
    have kt := kt.trans kd
    have hq := hq.keepNo kd
    (conv => whnf)
    refine VIdx.sl (hL') (t) (by first | rfl | omega) (by omega) (fun b_ o_ hA_ hc_ => ?_); (conv => whnf); refine VLoad.keep hc_ ?_; (conv => whnf)
    refine VIdx.sl (hF') (t) (by first | rfl | omega) (by omega) (fun b_ o_ hA_ hc_ => ?_); (conv => whnf); refine VLoad.keep hc_ ?_; (conv => whnf)
    refine VRes.xor8 rfl ?_
    (conv => whnf)
    refine VIdx.one t rfl (by omega) rfl ?_
    (conv => whnf)
    refine VStore.one hq (by rw [List.length_map]; simp [xorK]; omega) ?_
    intro w9 hq9 k9 _
    have kt := kt.fresh_ k9 (Nat.le_refl _)
    (conv => whnf)
    refine VOwe.to (fun _ => True) (fun h => absurd h (by decide +kernel)) trivial ?_; (conv => whnf)
    refine VRes.i64 (by omega) ?_; (conv => whnf)
    exact ⟨t + 1, ⟨rfl, rfl, rfl, rfl, rfl, rfl, rfl, rfl, rfl, rfl, rfl, trivial⟩, ⟨by omega, by rw [← xorK_set, List.map_set]; simpa [vb] using hq9, kt⟩, by omega⟩
  refine VMake.row_ (n := 6) (z := nv 0) (bytes := 8) Try.underlying74 (by kernel_rfl) rfl (by omega) (by omega) ?_
  intro w6 hq k6
  have hq : Blk w6 wi.heap.size TId ((sixK z i 0).map nv) := by rw [sixK, List.map_replicate]; exact hq
  (conv => whnf)
  refine VLoop.by_ tt_ok (S := Nat) (fun j => [(6, .slice A1 28 c1), (7, .slice A2 28 c2), (8, .slice Al 64 cl), (12, .slice Al' 32 cl'), (13, .slice Ar 32 cr), (14, .slice (some ⟨wd.heap.size, 0, none⟩) 48 48), (15, .slice (some ⟨w12.heap.size, 0, none⟩) 32 32), (16, .int .i64 ((k + 1 : Nat) : Int)), (18, .slice A5 48 c5), (19, .slice Ao (4 * i) co), (20, .int .i64 i), (21, .slice (some ⟨wi.heap.size, 0, none⟩) 6 6), (22, .int .i64 j)])
    (fun j w' => j ≤ 6 ∧ Blk w' wi.heap.size TId ((sixK z i j).map nv) ∧ Keep No wi w') (fun j => 6 - j) 0
    ⟨rfl, rfl, rfl, rfl, rfl, rfl, rfl, rfl, rfl, rfl, rfl, rfl, rfl, trivial⟩ ⟨by omega, hq, k6⟩ ?_
  rintro j wj ⟨hj, hq, kj⟩
  have hlt := Blk.lt hq
  have hsl := sixK_len z i j
  (conv => whnf)
  refine VCmp.mk (fun h => ?_) (fun h => ?_) <;> (conv => whnf)
  · have hR' := (hR.keepNo ki).keepNo kj
    have hK' := (hK.keepNo ki).keepNo kj
    have q2 : (4 * (i : Int) + (j : Int) + 31).tmod 32 = (((4 * i + j + 31) % 32 : Nat) : Int) := by rw [Int.tmod_eq_emod_of_nonneg (by omega)]; omega
    have hzz := hzat i j (by omega) (by omega)
    refine VDraw.by_ tt_ok rfl (.take 0 (.take 1 (.take 2 (.take 3 (.take 4 (.take 5 (.take 6 (.take 7 (.take 8 (.take 9 (.take 10 (.take 11 (.take 12 (.take 13 (.take 14 (.take 15 (.take 16 (.take 17 (.take 18 (.take 19 (.take 20 (.one 21 .done)))))))))))))))))))))) (by decide +kernel) _ (fun x h1 h2 h3 h4 => Keep.ofHeap h1 h2 h3 h4) (fun wd hd kd => ?_)
    have kj := kj.trans kd
    have hq := hq.keepNo kd
    (conv => whnf)
    refine VRes.i64 (by omega) ?_; (conv => whnf)
    refine VRes.i64 (by omega) ?_; (conv => whnf)
    refine VRes.i64 (by omega) ?_; (conv => whnf)
    refine VReq.mk (by omega) ?_
    refine VRes.to (congrArg (Value.int .i64) q2) ?_
    (conv => whnf)
    refine VIdx.sl (hR') ((4 * i + j + 31) % 32) (by first | rfl | omega) (by omega) (fun b_ o_ hA_ hc_ => ?_); (conv => whnf); refine VLoad.keep hc_ ?_; (conv => whnf)
    refine VRes.i64 (by omega) ?_; (conv => whnf)
    refine VRes.i64 (by omega) ?_; (conv => whnf)
    refine VIdx.sl (hK') (6 * i + j) (by first | rfl | omega) (by omega) (fun b_ o_ hA_ hc_ => ?_); (conv => whnf); refine VLoad.keep hc_ ?_; (conv => whnf)
    refine VRes.xor8 rfl ?_
    rw [← hzz]
    have hz8 := (z.getD (6 * i + j) 0).toNat_lt
    (conv => whnf)
    refine VRes.i64 (by omega) ?_
    (conv => whnf)
    refine VIdx.one j rfl (by omega) rfl ?_
    (conv => whnf)
    refine VStore.one hq (by rw [List.length_map, hsl]; omega) ?_
    intro w9 hq9 k9 _
    have kj := kj.fresh_ k9 (Nat.le_refl _)
    (conv => whnf)
    refine VOwe.to (fun _ => True) (fun h => absurd h (by decide +kernel)) trivial ?_; (conv => whnf)
    refine VRes.i64 (by omega) ?_; (conv => whnf)
    exact ⟨j + 1, ⟨rfl, rfl, rfl, rfl, rfl, rfl, rfl, rfl, rfl, rfl, rfl, rfl, rfl, trivial⟩, ⟨by omega, by rw [sixK, List.map_set]; simpa [nv] using hq9, kj⟩, by omega⟩
  obtain rfl : j = 6 := by omega
  obtain ⟨s0, hs0⟩ : ∃ s, s = (z.getD (6 * i + 0) 0).toNat := ⟨_, rfl⟩
  obtain ⟨s1, hs1⟩ : ∃ s, s = (z.getD (6 * i + 1) 0).toNat := ⟨_, rfl⟩
  obtain ⟨s2, hs2⟩ : ∃ s, s = (z.getD (6 * i + 2) 0).toNat := ⟨_, rfl⟩
  obtain ⟨s3, hs3⟩ : ∃ s, s = (z.getD (6 * i + 3) 0).toNat := ⟨_, rfl⟩
  obtain ⟨s4, hs4⟩ : ∃ s, s = (z.getD (6 * i + 4) 0).toNat := ⟨_, rfl⟩
  obtain ⟨s5, hs5⟩ : ∃ s, s = (z.getD (6 * i + 5) 0).toNat := ⟨_, rfl⟩
  rw [sixK_all, ← hs0, ← hs1, ← hs2, ← hs3, ← hs4, ← hs5] at hq
  have b0 : s0 ≤ 1 := by rw [hs0]; exact hzb.at_ _
  have b1 : s1 ≤ 1 := by rw [hs1]; exact hzb.at_ _
  have b2 : s2 ≤ 1 := by rw [hs2]; exact hzb.at_ _
  have b3 : s3 ≤ 1 := by rw [hs3]; exact hzb.at_ _
  have b4 : s4 ≤ 1 := by rw [hs4]; exact hzb.at_ _
  have b5 : s5 ≤ 1 := by rw [hs5]; exact hzb.at_ _
  have hv : (boxL i).getD (16 * (2 * s0 + s5) + (8 * s1 + 4 * s2 + 2 * s3 + s4)) 0 = (sVal i (sixP z i)).toNat := by
    rw [boxL_at i (2 * s0 + s5) (8 * s1 + 4 * s2 + 2 * s3 + s4) (by omega) (by omega) (by omega)]
    unfold sVal sRow sCol
    rw [sixP_at z i 0 (by omega), sixP_at z i 1 (by omega), sixP_at z i 2 (by omega), sixP_at z i 3 (by omega), sixP_at z i 4 (by omega), sixP_at z i 5 (by omega), ← hs0, ← hs1, ← hs2, ← hs3, ← hs4, ← hs5]
  refine VDraw.by_ tt_ok rfl (.take 0 (.take 2 (.take 3 (.take 4 (.take 5 (.take 6 (.take 7 (.take 8 (.take 9 (.take 10 (.take 11 (.take 12 (.take 13 (.take 14 (.take 15 (.take 16 (.take 17 (.take 18 (.take 19 (.take 20 (.take 21 (.take 22 (.take 23 (.take 24 (.take 25 (.take 26 (.take 27 (.take 28 (.take 29 (.one 1 (.take 30 (.take 31 (.take 32 .done))))))))))))))))))))))))))))))))) (by decide +kernel) _ (fun x h1 h2 h3 h4 => Keep.ofHeap h1 h2 h3 h4) (fun wd hd kd => ?_)
  (conv => whnf)
  refine VIdx.one 0 rfl (by omega) rfl ?_
  (conv => whnf)
  refine VLoad.keep (hq.cell 0) ?_
  (conv => whnf)
  refine VRes.i64 (by omega) ?_; (conv => whnf)
  refine VIdx.one 5 rfl (by omega) rfl ?_
  (conv => whnf)
  refine VLoad.keep (hq.cell 5) ?_
  (conv => whnf)
  refine VRes.i64 (by omega) ?_; (conv => whnf)
  refine VRes.i64 (by omega) ?_; (conv => whnf)
  refine VIdx.one 1 rfl (by omega) rfl ?_
  (conv => whnf)
  refine VLoad.keep (hq.cell 1) ?_
  (conv => whnf)
  refine VRes.i64 (by omega) ?_; (conv => whnf)
  refine VRes.i64 (by omega) ?_; (conv => whnf)
  refine VIdx.one 2 rfl (by omega) rfl ?_
  (conv => whnf)
  refine VLoad.keep (hq.cell 2) ?_
  (conv => whnf)
  refine VRes.i64 (by omega) ?_; (conv => whnf)
  refine VRes.i64 (by omega) ?_; (conv => whnf)
  refine VIdx.one 3 rfl (by omega) rfl ?_
  (conv => whnf)
  refine VLoad.keep (hq.cell 3) ?_
  (conv => whnf)
  refine VRes.i64 (by omega) ?_; (conv => whnf)
  refine VRes.i64 (by omega) ?_; (conv => whnf)
  refine VIdx.one 4 rfl (by omega) rfl ?_
  (conv => whnf)
  refine VLoad.keep (hq.cell 4) ?_
  (conv => whnf)
  refine VRes.i64 (by omega) ?_; (conv => whnf)
  refine (box_ok _ (i := i) (by omega)).mono ?_
  rintro v w4 ⟨⟨A9, c9, rfl, hbx⟩, k9⟩
  have kj9 := (kj.trans kd).trans k9
  have hown := hown.keepNo kj9
  have ki := ki.trans kj9
  (conv => whnf)
  refine VOwe.to (fun y => Keep No w4 y) (fun _ y hy => (kd.trans k9).trans hy) (Keep.refl _ _) ?_
  (conv => whnf)
  refine VIdx.nv hbx (16 * (2 * s0 + s5) + (8 * s1 + 4 * s2 + 2 * s3 + s4)) (by omega) (by omega) (fun b_ o_ hA_ hc_ => ?_)
  (conv => whnf)
  refine VLoad.keep hc_ ?_
  rw [hv]
  obtain ⟨V, hV⟩ : ∃ V, V = sVal i (sixP z i) := ⟨_, rfl⟩
  rw [← hV]
  have hV8 := V.toNat_lt
  (conv => whnf)
  refine VReq.mk (by omega) ?_
  refine VRes.shrN (k := .i64) (N := V.toNat) (s := 3) rfl rfl (by decide) ?_
  (conv => whnf)
  refine VRes.andNat (N := V.toNat / 2 ^ 3) (M := 1) (R := V.toNat / 2 ^ 3 % 2) rfl rfl (by omega) (by omega) (Nat.and_one_is_mod _) ?_
  (conv => whnf)
  refine VRes.byte (N := V.toNat / 2 ^ 3 % 2) rfl ?_
  (conv => whnf)
  refine VReq.mk (by omega) ?_
  refine VRes.shrN (k := .i64) (N := V.toNat) (s := 2) rfl rfl (by decide) ?_
  (conv => whnf)
  refine VRes.andNat (N := V.toNat / 2 ^ 2) (M := 1) (R := V.toNat / 2 ^ 2 % 2) rfl rfl (by omega) (by omega) (Nat.and_one_is_mod _) ?_
  (conv => whnf)
  refine VRes.byte (N := V.toNat / 2 ^ 2 % 2) rfl ?_
  (conv => whnf)
  refine VReq.mk (by omega) ?_
  refine VRes.shrN (k := .i64) (N := V.toNat) (s := 1) rfl rfl (by decide) ?_
  (conv => whnf)
  refine VRes.andNat (N := V.toNat / 2 ^ 1) (M := 1) (R := V.toNat / 2 ^ 1 % 2) rfl rfl (by omega) (by omega) (Nat.and_one_is_mod _) ?_
  (conv => whnf)
  refine VRes.byte (N := V.toNat / 2 ^ 1 % 2) rfl ?_
  (conv => whnf)
  refine VRes.andNat (N := V.toNat) (M := 1) (R := V.toNat % 2) rfl rfl (by omega) (by omega) (Nat.and_one_is_mod _) ?_
  (conv => whnf)
  refine VRes.byte (N := V.toNat % 2) rfl ?_
  (conv => whnf)
  refine VFill.by_ rfl ?_; (conv => whnf)
  refine ⟨fun w10 hb10 k10 => ?_⟩
  have ki := ki.trans k10
  have hown := hown.keepNo k10
  have hys : Sl w10 1 (some ⟨w4.heap.size, 0, none⟩) 4 ((nibP V).map vb) := Sl.ofBlk (n := 4) (size := 1) (by rw [nibP_eq]; exact hb10) (by rw [List.length_map, nibP_len])
  (conv => whnf)
  refine appBd (w0 := w5) ki hown hys (by omega) ?_
  intro A11 c11 w11 ho11 k11 _
  (conv => whnf)
  refine VRes.i64 (by omega) ?_; (conv => whnf)
  exact ⟨(i + 1, A11, c11), ⟨rfl, rfl, rfl, rfl, rfl, rfl, rfl, rfl, rfl, rfl, rfl, trivial⟩, ⟨by omega, by rw [boxK_snoc, ← hV]; exact ho11, k11⟩, by dsimp only; omega⟩
end Go.Proofs.Ytififgodhnelgaa
