/-
  DES, the program's: 48 bits made 32 by the S-boxes.
-/
import Derived.Test.YtoeijgbjgbgelaaDoorD4
namespace Go.Proofs.YtoeijgbjgbgelaaDoor
open Go V

def sixP (l : List UInt8) (x : Nat) : List UInt8 := (l.take (6 * x + 6)).drop (6 * x)
def sRow (s : List UInt8) : Nat := 2 * (s.getD 0 0).toNat + (s.getD 5 0).toNat
def sCol (s : List UInt8) : Nat := 8 * (s.getD 1 0).toNat + 4 * (s.getD 2 0).toNat + 2 * (s.getD 3 0).toNat + (s.getD 4 0).toNat
def sVal (x : Nat) (s : List UInt8) : UInt8 := (sboxL.getD (4 * x + sRow s) []).getD (sCol s) 0
def nib8 (v : UInt8) (j : Nat) : UInt8 := UInt8.ofNat (v.toNat / 2 ^ (3 - j) % 2)
def nibP (v : UInt8) : List UInt8 := (List.range 4).map (nib8 v)
def boxK (l : List UInt8) (k : Nat) : List UInt8 := (List.range k).flatMap fun x => nibP (sVal x (sixP l x))
theorem boxK_snoc (l : List UInt8) (k : Nat) : boxK l (k + 1) = boxK l k ++ nibP (sVal k (sixP l k)) := by
  unfold boxK; rw [List.range_succ, List.flatMap_append]; simp
theorem nibP_len (v : UInt8) : (nibP v).length = 4 := by simp [nibP]
theorem nibP_snoc (v : UInt8) (j : Nat) (h : j < 4) : (nibP v).take (j + 1) = (nibP v).take j ++ [nib8 v j] := by
  have : (nibP v)[j]? = some (nib8 v j) := by unfold nibP; rw [List.getElem?_map, List.getElem?_range h]; rfl
  rw [List.take_add_one, this]; rfl
theorem sbox_len : ∀ t, t < 32 → (sboxL.getD t []).length = 16 := by
  have : ∀ t : Fin 32, (sboxL.getD t.val []).length = 16 := by decide +kernel
  exact fun t h => this ⟨t, h⟩
theorem bit_at {l : List UInt8} (h : ∀ x ∈ l, x.toNat ≤ 1) (i : Nat) : (l.getD i 0).toNat ≤ 1 := by
  rw [List.getD_eq_getElem?_getD]
  rcases Nat.lt_or_ge i l.length with h1 | h1
  · rw [List.getElem?_eq_getElem h1]; exact h _ (List.getElem_mem h1)
  · rw [List.getElem?_eq_none h1]; decide

theorem getD_some8 {l : List UInt8} {i : Nat} (h : i < l.length) : l[i]? = some (l.getD i 0) := by
  rw [List.getD_eq_getElem?_getD, List.getElem?_eq_getElem h]; rfl

theorem boxed_ok (w : World) {A : Option Addr} {c : Nat} {l : List UInt8} (hs : Sl w 1 A 48 (l.map vb)) (hc : 48 ≤ c) (hbit : ∀ x ∈ l, x.toNat ≤ 1) :
    VC Tryd.prog 38 [.slice A 48 c] w (fun v w' => (∃ A' c', v = .slice A' 32 c' ∧ Own w' w.heap.size T8 1 A' 32 c' ((boxK l 8).map vb)) ∧ Keep No w w') := by
  have hl : l.length = 48 := by simpa using hs.len
  refine VC.of tt_ok Tryd.func38 rfl (by decide +kernel) (Nat.le_of_ble_eq_true rfl) ?_; (conv => whnf)
  refine VLoop.by_ tt_ok (S := Nat × Option Addr × Nat) (fun | (k, Al, cl) => [(0, .slice A 48 c), (3, .slice Al (4 * k) cl), (9, .int .i64 k)])
    (fun | (k, Al, cl) => fun w' => k ≤ 8 ∧ Own w' w.heap.size T8 1 Al (4 * k) cl ((boxK l k).map vb) ∧ Keep No w w') (fun | (k, _) => 8 - k)
    (0, none, 0) ⟨rfl, rfl, rfl, trivial⟩ ⟨by omega, Own.nil _ _ _ _, Keep.refl _ _⟩ ?_
  rintro ⟨k, Al, cl⟩ w' ⟨hk, hown, kk⟩
  (conv => whnf)
  refine VCmp.mk (fun h => ?_) (fun h => ?_) <;> (conv => whnf)
  rotate_left 1
  · obtain rfl : k = 8 := by omega
    exact ⟨⟨Al, cl, rfl, hown⟩, kk⟩
  refine VRes.i64 (by omega) ?_; (conv => whnf)
  refine VRes.i64 (by omega) ?_; (conv => whnf)
  refine VRes.i64 (by omega) ?_; (conv => whnf)
  refine VCut.by_ (6 * k) (6 * k + 6) (by omega) (by omega) (by omega) (by omega) ?_
  intro A5 hA5
  have h5 := Sl.cut8 (hs.keepNo kk) (l := 6 * k) (h := 6 * k + 6) (by omega) (by omega) hc (A' := A5) hA5
  obtain ⟨s, hsx⟩ : ∃ s, s = sixP l k := ⟨_, rfl⟩
  change Sl w' 1 A5 (6 * k + 6 - 6 * k) ((sixP l k).map vb) at h5
  rw [← hsx] at h5
  have hsb : ∀ x ∈ s, x.toNat ≤ 1 := fun x hx => hbit x (by rw [hsx] at hx; exact List.mem_of_mem_take (List.mem_of_mem_drop hx))
  have b0 := bit_at hsb 0
  have b1 := bit_at hsb 1
  have b2 := bit_at hsb 2
  have b3 := bit_at hsb 3
  have b4 := bit_at hsb 4
  have b5 := bit_at hsb 5
  have hrow : sRow s < 4 := by unfold sRow; omega
  have hcol : sCol s < 16 := by unfold sCol; omega
  have hbl := sbox_len (4 * k + sRow s) (by omega)
  have hsz' := kk.size
  (conv => whnf)
  refine VDraw.by_ tt_ok rfl (.take 0 (.take 1 (.take 2 (.take 3 (.take 4 (.take 5 (.take 6 (.take 7 (.take 8 (.take 9 (.two 10 (.one 11 (.one 12 .done)) 11 (.one 10 (.one 12 .done))))))))))))) (by decide +kernel) _ (fun x h1 h2 h3 h4 => Keep.ofHeap h1 h2 h3 h4) (fun wd hd kd => ?_)
  have h5' := h5
  have kk := kk.keepNo kd; have hown := hown.keepNo kd; have h5 := h5.keepNo kd
  have hsw := kd.size
  (conv => whnf)
  refine VIdx.sl h5' 0 rfl (by omega) (fun b_ o_ hA_ hc_ => ?_)
  (conv => whnf)
  refine VLoad.keep hc_ ?_
  (conv => whnf)
  refine VRes.u8 (by omega) ?_
  (conv => whnf)
  refine VIdx.sl h5' 5 rfl (by omega) (fun b_ o_ hA_ hc_ => ?_)
  (conv => whnf)
  refine VLoad.keep hc_ ?_
  (conv => whnf)
  refine VRes.u8 (by omega) ?_
  (conv => whnf)
  refine VRes.i64 (by omega) ?_; (conv => whnf)
  rw [show (2 : Int) * ((s.getD 0 0).toNat : Int) + ((s.getD 5 0).toNat : Int) = ((sRow s : Nat) : Int) from by unfold sRow; omega]
  have hown0 := hown
  have h50 := h5
  refine ⟨?_, ?_⟩
  · refine (row_ok wd (x := k) (n := sRow s) (by omega) hrow).mono ?_
    rintro v w1 ⟨rfl, hk1⟩
    have kd := kd.keepNo hk1; have kk := kk.keepNo hk1; have hown := hown.keepNo hk1; have h5 := h5.keepNo hk1
    have hk1_sz := hk1.size
    (conv => whnf)
    refine VOwe.same kd ?_
    (conv => whnf)
    refine ⟨fun w2 hb6 hk2 => ?_⟩; have hb6_lt := Blk.lt hb6; have hk2_sz := hk2.size; (conv => whnf)
    have kd := kd.keepNo hk2; have kk := kk.keepNo hk2; have hown := hown.keepNo hk2; have h5 := h5.keepNo hk2
    refine VOwe.same kd ?_
    (conv => whnf)
    refine VReq.mk ⟨by show ((sboxL.getD (4 * k + sRow s) []).map vb).length = 16; rw [List.length_map, hbl], fun u hu => one8 (sboxL.getD (4 * k + sRow s) []) u hu⟩ ?_
    refine VStore.all (vs := (sboxL.getD (4 * k + sRow s) []).map vb) hb6 (by rw [List.length_map, hbl]; rfl) ?_
    intro w3 hb6 hk3 hk3_sz
    have kk := kk.fresh_ hk3 (by omega)
    have hown := hown.keep hk3 (fun a ha e => by have := (hown0.base_ ha).2; have e : a.block = w1.heap.size := e; omega)
    have h5 := h5.keepP hk3 (fun a ha h0 e => by have := h50.lt (by omega) ha; have e : a.block = w1.heap.size := e; omega)
    have hcell : w3.cell? ⟨w1.heap.size, sCol s, none⟩ = some (vb (sVal k s)) := by
      rw [hb6.cell, List.getElem?_map, getD_some8 (by omega)]
      rfl
    (conv => whnf)
    refine VOwe.to (fun _ => True) (fun h => absurd h (by decide +kernel)) trivial ?_; (conv => whnf)
    refine VDraw.by_ tt_ok rfl (.take 0 (.take 1 (.take 2 (.take 3 (.take 4 (.take 5 (.take 6 (.take 7 (.take 8 (.take 9 (.take 10 (.take 11 (.take 12 (.take 13 (.take 14 (.take 15 (.take 16 (.take 17 (.take 18 (.take 19 (.take 20 .done))))))))))))))))))))) (by decide +kernel) _ (fun x h1 h2 h3 h4 => Keep.ofHeap h1 h2 h3 h4) (fun wd hd kd => ?_)
    have h5' := h5
    have kk := kk.keepNo kd; have hown := hown.keepNo kd
    (conv => whnf)
    refine VIdx.sl h5' 1 rfl (by omega) (fun b_ o_ hA_ hc_ => ?_)
    (conv => whnf)
    refine VLoad.keep hc_ ?_
    (conv => whnf)
    refine VRes.u8 (by omega) ?_
    (conv => whnf)
    refine VIdx.sl h5' 2 rfl (by omega) (fun b_ o_ hA_ hc_ => ?_)
    (conv => whnf)
    refine VLoad.keep hc_ ?_
    (conv => whnf)
    refine VRes.u8 (by omega) ?_
    (conv => whnf)
    refine VRes.u8 (by omega) ?_
    (conv => whnf)
    refine VIdx.sl h5' 3 rfl (by omega) (fun b_ o_ hA_ hc_ => ?_)
    (conv => whnf)
    refine VLoad.keep hc_ ?_
    (conv => whnf)
    refine VRes.u8 (by omega) ?_
    (conv => whnf)
    refine VRes.u8 (by omega) ?_
    (conv => whnf)
    refine VIdx.sl h5' 4 rfl (by omega) (fun b_ o_ hA_ hc_ => ?_)
    (conv => whnf)
    refine VLoad.keep hc_ ?_
    (conv => whnf)
    refine VRes.u8 (by omega) ?_
    (conv => whnf)
    refine VIdxA.one (sCol s) (by unfold sCol; omega) hcol rfl ?_
    (conv => whnf)
    refine VLoad.keep (by simpa using hcell) ?_
    (conv => whnf)
    have hv8 := (sVal k s).toNat_lt
    refine VLoop.by_ tt_ok (S := Nat × Option Addr × Nat) (fun | (j, Aj, cj) => [(0, .slice A 48 c), (3, .slice Aj (4 * k + j) cj), (7, vb (sVal k s)), (8, .int .i64 (3 - (j : Int))), (9, .int .i64 k)])
      (fun | (j, Aj, cj) => fun w' => j ≤ 4 ∧ Own w' w.heap.size T8 1 Aj (4 * k + j) cj ((boxK l k ++ (nibP (sVal k s)).take j).map vb) ∧ Keep No w w') (fun | (j, _) => 4 - j)
      (0, Al, cl) ⟨rfl, rfl, rfl, rfl, rfl, trivial⟩ ⟨by omega, by simpa using hown, kk⟩ ?_
    rintro ⟨j, Aj, cj⟩ wj ⟨hj, hownj, kj⟩
    (conv => whnf)
    refine VCmp.mk (fun h => ?_) (fun h => ?_) <;> (conv => whnf)
    rotate_left 1
    · obtain rfl : j = 4 := by omega
      rw [show (nibP (sVal k s)).take 4 = nibP (sVal k s) from List.take_of_length_le (by rw [nibP_len]; omega), hsx, ← boxK_snoc] at hownj
      refine VRes.i64 (by omega) ?_; (conv => whnf)
      exact ⟨(k + 1, Aj, cj), ⟨rfl, rfl, rfl, trivial⟩, ⟨by omega, hownj, kj⟩, by dsimp only; omega⟩
    refine VReq.mk (by omega) ?_
    refine VRes.shrN (N := (sVal k s).toNat) (s := 3 - j) rfl (by omega) (by show 3 - j ≤ 8; omega) ?_
    (conv => whnf)
    refine VRes.oddN (N := (sVal k s).toNat / 2 ^ (3 - j)) rfl rfl (Nat.lt_of_le_of_lt (Nat.div_le_self _ _) hv8) ?_
    (conv => whnf)
    refine VFill.by_ rfl ?_; (conv => whnf)
    refine ⟨fun w6 hb7 hk7 => ?_⟩; have hb7_lt := Blk.lt hb7; have hk7_sz := hk7.size; (conv => whnf)
    have kj := kj.keepNo hk7; have hownj := hownj.keepNo hk7
    refine appBd kj hownj (ys := [nib8 (sVal k s) j]) (Sl.ofBlk (n := 1) (size := 1) hb7 rfl) (by omega) ?_
    intro A8 c8 w8 ho8 hk8 _
    (conv => whnf)
    refine VRes.i64 (by omega) ?_; (conv => whnf)
    exact ⟨(j + 1, A8, c8), ⟨rfl, rfl, rfl, by rw [show (3 : Int) - ((j + 1 : Nat) : Int) = 3 - (j : Int) - 1 from by omega]; rfl, rfl, trivial⟩, ⟨by omega, by rw [nibP_snoc (sVal k s) j (by omega), ← List.append_assoc]; exact ho8, hk8⟩, by dsimp only; omega⟩
  · refine ⟨fun w1 hb6 hk1 => ?_⟩; have hb6_lt := Blk.lt hb6; have hk1_sz := hk1.size; (conv => whnf)
    have kd := kd.keepNo hk1; have kk := kk.keepNo hk1; have hown := hown.keepNo hk1; have h5 := h5.keepNo hk1
    refine VOwe.same kd ?_
    (conv => whnf)
    refine (row_ok w1 (x := k) (n := sRow s) (by omega) hrow).mono ?_
    rintro v w2 ⟨rfl, hk2⟩
    have kd := kd.keepNo hk2; have kk := kk.keepNo hk2; have hown := hown.keepNo hk2; have h5 := h5.keepNo hk2; have hb6 := hb6.keepNo hk2
    have hk2_sz := hk2.size
    (conv => whnf)
    refine VOwe.same kd ?_
    (conv => whnf)
    refine VReq.mk ⟨by show ((sboxL.getD (4 * k + sRow s) []).map vb).length = 16; rw [List.length_map, hbl], fun u hu => one8 (sboxL.getD (4 * k + sRow s) []) u hu⟩ ?_
    refine VStore.all (vs := (sboxL.getD (4 * k + sRow s) []).map vb) hb6 (by rw [List.length_map, hbl]; rfl) ?_
    intro w3 hb6 hk3 hk3_sz
    have kk := kk.fresh_ hk3 (by omega)
    have hown := hown.keep hk3 (fun a ha e => by have := (hown0.base_ ha).2; have e : a.block = wd.heap.size := e; omega)
    have h5 := h5.keepP hk3 (fun a ha h0 e => by have := h50.lt (by omega) ha; have e : a.block = wd.heap.size := e; omega)
    have hcell : w3.cell? ⟨wd.heap.size, sCol s, none⟩ = some (vb (sVal k s)) := by
      rw [hb6.cell, List.getElem?_map, getD_some8 (by omega)]
      rfl
    (conv => whnf)
    refine VOwe.to (fun _ => True) (fun h => absurd h (by decide +kernel)) trivial ?_; (conv => whnf)
    refine VDraw.by_ tt_ok rfl (.take 0 (.take 1 (.take 2 (.take 3 (.take 4 (.take 5 (.take 6 (.take 7 (.take 8 (.take 9 (.take 10 (.take 11 (.take 12 (.take 13 (.take 14 (.take 15 (.take 16 (.take 17 (.take 18 (.take 19 (.take 20 .done))))))))))))))))))))) (by decide +kernel) _ (fun x h1 h2 h3 h4 => Keep.ofHeap h1 h2 h3 h4) (fun wd hd kd => ?_)
    have h5' := h5
    have kk := kk.keepNo kd; have hown := hown.keepNo kd
    (conv => whnf)
    refine VIdx.sl h5' 1 rfl (by omega) (fun b_ o_ hA_ hc_ => ?_)
    (conv => whnf)
    refine VLoad.keep hc_ ?_
    (conv => whnf)
    refine VRes.u8 (by omega) ?_
    (conv => whnf)
    refine VIdx.sl h5' 2 rfl (by omega) (fun b_ o_ hA_ hc_ => ?_)
    (conv => whnf)
    refine VLoad.keep hc_ ?_
    (conv => whnf)
    refine VRes.u8 (by omega) ?_
    (conv => whnf)
    refine VRes.u8 (by omega) ?_
    (conv => whnf)
    refine VIdx.sl h5' 3 rfl (by omega) (fun b_ o_ hA_ hc_ => ?_)
    (conv => whnf)
    refine VLoad.keep hc_ ?_
    (conv => whnf)
    refine VRes.u8 (by omega) ?_
    (conv => whnf)
    refine VRes.u8 (by omega) ?_
    (conv => whnf)
    refine VIdx.sl h5' 4 rfl (by omega) (fun b_ o_ hA_ hc_ => ?_)
    (conv => whnf)
    refine VLoad.keep hc_ ?_
    (conv => whnf)
    refine VRes.u8 (by omega) ?_
    (conv => whnf)
    refine VIdxA.one (sCol s) (by unfold sCol; omega) hcol rfl ?_
    (conv => whnf)
    refine VLoad.keep (by simpa using hcell) ?_
    (conv => whnf)
    have hv8 := (sVal k s).toNat_lt
    refine VLoop.by_ tt_ok (S := Nat × Option Addr × Nat) (fun | (j, Aj, cj) => [(0, .slice A 48 c), (3, .slice Aj (4 * k + j) cj), (7, vb (sVal k s)), (8, .int .i64 (3 - (j : Int))), (9, .int .i64 k)])
      (fun | (j, Aj, cj) => fun w' => j ≤ 4 ∧ Own w' w.heap.size T8 1 Aj (4 * k + j) cj ((boxK l k ++ (nibP (sVal k s)).take j).map vb) ∧ Keep No w w') (fun | (j, _) => 4 - j)
      (0, Al, cl) ⟨rfl, rfl, rfl, rfl, rfl, trivial⟩ ⟨by omega, by simpa using hown, kk⟩ ?_
    rintro ⟨j, Aj, cj⟩ wj ⟨hj, hownj, kj⟩
    (conv => whnf)
    refine VCmp.mk (fun h => ?_) (fun h => ?_) <;> (conv => whnf)
    rotate_left 1
    · obtain rfl : j = 4 := by omega
      rw [show (nibP (sVal k s)).take 4 = nibP (sVal k s) from List.take_of_length_le (by rw [nibP_len]; omega), hsx, ← boxK_snoc] at hownj
      refine VRes.i64 (by omega) ?_; (conv => whnf)
      exact ⟨(k + 1, Aj, cj), ⟨rfl, rfl, rfl, trivial⟩, ⟨by omega, hownj, kj⟩, by dsimp only; omega⟩
    refine VReq.mk (by omega) ?_
    refine VRes.shrN (N := (sVal k s).toNat) (s := 3 - j) rfl (by omega) (by show 3 - j ≤ 8; omega) ?_
    (conv => whnf)
    refine VRes.oddN (N := (sVal k s).toNat / 2 ^ (3 - j)) rfl rfl (Nat.lt_of_le_of_lt (Nat.div_le_self _ _) hv8) ?_
    (conv => whnf)
    refine VFill.by_ rfl ?_; (conv => whnf)
    refine ⟨fun w6 hb7 hk7 => ?_⟩; have hb7_lt := Blk.lt hb7; have hk7_sz := hk7.size; (conv => whnf)
    have kj := kj.keepNo hk7; have hownj := hownj.keepNo hk7
    refine appBd kj hownj (ys := [nib8 (sVal k s) j]) (Sl.ofBlk (n := 1) (size := 1) hb7 rfl) (by omega) ?_
    intro A8 c8 w8 ho8 hk8 _
    (conv => whnf)
    refine VRes.i64 (by omega) ?_; (conv => whnf)
    exact ⟨(j + 1, A8, c8), ⟨rfl, rfl, rfl, by rw [show (3 : Int) - ((j + 1 : Nat) : Int) = 3 - (j : Int) - 1 from by omega]; rfl, rfl, trivial⟩, ⟨by omega, by rw [nibP_snoc (sVal k s) j (by omega), ← List.append_assoc]; exact ho8, hk8⟩, by dsimp only; omega⟩
end Go.Proofs.YtoeijgbjgbgelaaDoor
