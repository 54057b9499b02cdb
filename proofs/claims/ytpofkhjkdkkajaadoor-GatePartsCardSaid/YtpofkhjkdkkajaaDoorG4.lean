/-
  Gate: the reference's Look; Clean and Count.
-/
import Derived.Test.YtpofkhjkdkkajaaDoorG3
namespace Go.Proofs.YtpofkhjkdkkajaaDoor
open Go V
open Pk (decodeP splitP PkV OpsN Ops)

def rf0 : Rf := ⟨0#32, 4096, [], false, 0⟩
theorem rel0 : Rel df0 rf0 := ⟨rfl, rfl, rfl, rfl, rfl, rfl⟩
theorem refLook_ok (w : World) {A : Option Addr} {n c : Nat} {l : List UInt8} (hs : Sl w 1 A n (l.map vb)) (hn : n ≤ 100000) :
    VC Tryd.prog 12 [.slice A n c] w (fun v w' => LookV w' v (lookP l) ∧ Keep No w w') := by
  have hl : l.length = n := by simpa using hs.len
  refine VC.of tt_ok Tryd.func12 rfl (by decide +kernel) (Nat.le_of_ble_eq_true rfl) ?_; (conv => whnf)
  refine VFill.by_ rfl ?_; (conv => whnf)
  refine ⟨fun w1 hb1 hk1 => ?_⟩; have hb1_lt := Blk.lt hb1; have hk1_sz := hk1.size; (conv => whnf); (refine VReq.mk ⟨rfl, (fun u hu => List.all_eq_true.mp (show List.all _ (fun u => u.oneCell') = true by rfl) u hu)⟩ ?_; (conv => whnf)); refine VStore.all hb1 rfl ?_; intro w2 hb2 kp kp_sz; have kp := Keep.fresh_ hk1 kp (Nat.le_refl _); (conv => whnf)
  have hdf : RfA w2 w.heap.size none rf0 := ⟨0, 0, hb2, Own.nil _ _ _ _⟩
  refine (refFeed_ok w2 (D := 0) hdf ⟨by decide, by decide, by simp [rf0], by simp [rf0]⟩ (hs.keepNo kp) (fun a ha h0 e => by
      have hlt := hs.lt (by omega) ha
      rcases e with e | ⟨_, e, _⟩
      · omega
      · cases e) (by omega) (by omega)).mono ?_
  rintro v w3 ⟨A', Ao, no, co, vals, rfl, hst⟩
  have hno := hst.no_len
  have hels := hst.els
  have hlow : ∀ i, fpt w.heap.size none i → i = w.heap.size := fun i e => by
    rcases e with e | ⟨_, e, _⟩
    · exact e
    · cases e
  have kp := kp.toNo hst.keep (fun i e => by have := hlow i e; omega)
  obtain ⟨hrel, hfr⟩ := Rel.feed rel0 (by decide) l
  have hfl := Df.feed_len df0 l
  have hfe := Df.feed_each (s := df0) (D := 0) ⟨by decide, by decide, by simp [df0], by simp [df0]⟩ l
  have hfd := (Df.feed_ok' (s := df0) (D := 0) ⟨by decide, by decide, by simp [df0], by simp [df0]⟩ l).d
  have hdd := hrel.dropped
  obtain ⟨fs, hfs⟩ : ∃ fs, fs = (df0.feed l).2 := ⟨_, rfl⟩
  have hlk : lookP l = (snsOf fs, ((badOf fs + (df0.feed l).1.dropped : Nat) : Int)) := by rw [hfs]; rfl
  rw [← hfr] at hno hels
  rw [← hfs] at hels hno hfl hfe
  obtain ⟨n0, c0, hbd, _⟩ := hst.df
  have hsv := Sl.ofOwn hst.out
  (conv => whnf)
  refine VLoad.by_ ((hbd).cell 4) ?_; (conv => whnf)
  rw [← hdd]
  refine VLoop.by_ tt_ok (S := Nat × Option Addr × Nat × List Value) (fun | (k, Al, cl, _) => [(7, .slice Al (snsOf (fs.take k)).length cl), (6, .int .i64 (((df0.feed l).1.dropped + badOf (fs.take k) : Nat) : Int)), (5, .slice Ao no co), (8, .int .i64 k)])
    (fun | (k, Al, cl, cells) => fun w' => k ≤ no ∧ Own w' w3.heap.size TRs 5 Al (snsOf (fs.take k)).length cl cells ∧ SnsT w' cells (snsOf (fs.take k)) ∧ Keep No w3 w') (fun | (k, _) => no - k)
    (0, none, 0, []) ⟨rfl, rfl, rfl, rfl, trivial⟩ ⟨by omega, Own.nil _ _ _ _, Sns.nil _ _, Keep.refl _ _⟩ ?_
  rintro ⟨k, Al, cl, cells⟩ w' ⟨hk, hown, hsn, kk⟩
  have hbl := badOf_le (fs.take k)
  have hsl := snsOf_le (fs.take k)
  have htk := List.length_take_le k fs
  have htk2 : (fs.take k).length ≤ fs.length := by rw [List.length_take]; omega
  (conv => whnf)
  refine VCmp.mk (fun h => ?_) (fun h => ?_) <;> (conv => whnf)
  rotate_left 1
  · obtain rfl : k = no := by omega
    rw [List.take_of_length_le (by omega)] at hown hsn hbl ⊢
    rw [hlk, Nat.add_comm]
    exact ⟨⟨Al, _, cl, cells, by rfl, Sl.ofOwn hown, hsn.mono (fun _ _ => trivial), hown.le⟩, kp.trans kk⟩
  obtain ⟨x, hx⟩ : ∃ x, fs[k]? = some x := ⟨_, List.getElem?_eq_getElem (by omega)⟩
  obtain ⟨vx, hvx, Ax, cx, rfl, hcx, hsx, _⟩ := hels.2 k x hx
  have hxl := hfe x (List.mem_of_getElem? hx)
  obtain ⟨bo, oo, hAo, hco⟩ := hsv.at_ (by omega)
  refine VIdx.one k rfl (by omega) hAo ?_
  (conv => whnf)
  refine VLoad.by_ (kk.cell (hco k _ hvx) id) ?_
  (conv => whnf)
  refine VFill.by_ rfl ?_; (conv => whnf)
  refine (refRead_ok w' both (hsx.keepNo kk) (by omega) hcx).mono ?_
  rintro v w4 ⟨⟨A3, c3, rfl, ho3⟩, hk3⟩
  have kk := kk.keepNo hk3; have hown := hown.keepNo hk3; have hsn := hsn.keepNo hk3
  have e1 := snsOf_snoc fs k x hx
  have e2 := badOf_snoc fs k x hx
  have hrl := readW_len x both
  (conv => whnf)
  refine VCmp.mk (fun h3 => ?_) (fun h3 => ?_) <;> (conv => whnf)
  · have e3 : snOf x = [] := by unfold snOf; rw [if_neg h3]
    rw [e3, List.append_nil] at e1
    rw [if_neg h3] at e2
    refine VRes.i64 (by omega) ?_
    (conv => whnf)
    refine VRes.i64 (by omega) ?_; (conv => whnf)
    refine ⟨(k + 1, Al, cl, cells), ⟨by rw [e1]; rfl, by rw [e2]; rfl, rfl, rfl, trivial⟩, ⟨by omega, by rw [e1]; exact hown, by rw [e1]; exact hsn, kk⟩, by dsimp only; omega⟩
  · have h3' : (readW x both).2.2 = 0 := by omega
    have e3 : snOf x = [snP (readW x both).1 (readW x both).2.1] := by unfold snOf; rw [if_pos h3']
    rw [e3] at e1
    rw [if_pos h3', Nat.add_zero] at e2
    refine (seen_ok w4 (readW x both).1 (Sl.ofOwn ho3) (by omega) ho3.le).mono ?_
    rintro v w5 ⟨⟨A4, c4, rfl, hs4, hc4, hx4⟩, hk4⟩
    have kk := kk.keepNo hk4; have hown := hown.keepNo hk4; have hsn := hsn.keepNo hk4
    obtain ⟨y, hy⟩ : ∃ y, y = snP (readW x both).1 (readW x both).2.1 := ⟨_, rfl⟩
    rw [← hy] at e1 hs4 hc4 ⊢
    (conv => whnf)
    refine VFill.by_ rfl ?_; (conv => whnf)
    refine ⟨fun w6 hb5 hk5 => ?_⟩; have hb5_lt := Blk.lt hb5; have hk5_sz := hk5.size; (conv => whnf)
    have kk := kk.keepNo hk5; have hown := hown.keepNo hk5; have hsn := hsn.keepNo hk5; have hs4 := hs4.keepNo hk5
    have hone : SnsT w6 [iv y.proto, iv y.code, .slice A4 y.kinds.length c4, iv y.bytes, .bool y.enc] [y] := Sns.one_ hs4 hc4 (fun a ha => (hx4 a ha).keepNo hk5)
    refine appR (w0 := w3) kk hown (Sl.ofBlk (n := 1) (size := 5) hb5 rfl) hone.cells1 (by omega) ?_
    intro A6 c6 w7 ho6 hk6 hkA
    have hsn6 : SnsT w7 (cells ++ [iv y.proto, iv y.code, .slice A4 y.kinds.length c4, iv y.bytes, .bool y.enc]) (snsOf (fs.take k) ++ [y]) := SnsT.keep (Sns.append hsn hone) hkA (fun i hi ⟨a, ha, e⟩ => (hi.ne (hown.ty ha) (by decide)) e.symm)
    (conv => whnf)
    refine VRes.i64 (by omega) ?_; (conv => whnf)
    refine ⟨(k + 1, A6, c6, _), ⟨by rw [e1, List.length_append]; rfl, by rw [e2]; rfl, rfl, rfl, trivial⟩, ⟨by omega, by rw [e1, List.length_append]; exact ho6, by rw [e1]; exact hsn6, hk6⟩, by dsimp only; omega⟩

/-! ### Clean, Count -/
def okS (s : Sn) : Bool := decide (s.proto = 49185) || decide (s.proto = 49699) || decide (s.proto = 33021) || decide (s.proto = 32851) || decide (s.proto = 61) || (decide (s.proto = 253) && s.enc)
def cleanB (ss : List Sn) : Bool := ss.all okS
def countN (p : Int) (ss : List Sn) : Nat := (ss.filter fun s => decide (s.proto = p)).length
theorem countN_snoc (p : Int) (ss : List Sn) (k : Nat) (x : Sn) (h : ss[k]? = some x) : countN p (ss.take (k + 1)) = countN p (ss.take k) + if x.proto = p then 1 else 0 := by
  rw [List.take_add_one, h]
  unfold countN
  rw [List.filter_append, List.length_append]
  congr 1
  by_cases hx : x.proto = p <;> simp [hx]
theorem countN_le (p : Int) (ss : List Sn) : countN p ss ≤ ss.length := List.length_filter_le _ _
theorem clean_all {ss : List Sn} (h : ∀ s ∈ ss, okS s = true) : cleanB ss = true := List.all_eq_true.2 h
theorem clean_no {ss : List Sn} {k : Nat} {x : Sn} (hx : ss[k]? = some x) (h : okS x = false) : cleanB ss = false := by
  cases hc : cleanB ss with
  | false => rfl
  | true =>
    have := List.all_eq_true.1 hc x (List.mem_of_getElem? hx)
    rw [h] at this; cases this
theorem take_snoc_all {ss : List Sn} {k : Nat} {x : Sn} (hx : ss[k]? = some x) (h : ∀ s ∈ ss.take k, okS s = true) (hk : okS x = true) : ∀ s ∈ ss.take (k + 1), okS s = true := by
  intro y hy
  rw [List.take_add_one, hx] at hy
  rcases List.mem_append.1 hy with h1 | h1
  · exact h y h1
  · obtain rfl : y = x := by simpa using h1
    exact hk

theorem Clean_ok (w : World) {X : Nat → Prop} {A : Option Addr} {n c : Nat} {cells : List Value} {ss : List Sn} (hs : Sl w 5 A n cells) (ho : Sns w X cells ss) (hn : n ≤ 1000000) :
    VC Tryd.prog 10 [.slice A n c] w (fun v w' => v = .bool (cleanB ss) ∧ Keep No w w') := by
  have hl := ho.len hs
  refine VC.of tt_ok Tryd.func10 rfl (by decide +kernel) (Nat.le_of_ble_eq_true rfl) ?_; (conv => whnf)
  refine VLoop.by_ tt_ok (S := Nat) (fun k => [(5, .slice A n c), (6, .int .i64 n), (7, .int .i64 k)]) (fun k w' => k ≤ n ∧ (∀ s ∈ ss.take k, okS s = true) ∧ Keep No w w') (fun k => n - k) 0
    ⟨rfl, rfl, rfl, trivial⟩ ⟨by omega, by simp, Keep.refl _ _⟩ ?_
  rintro k w' ⟨hk, hall, kp⟩
  (conv => whnf)
  refine VCmp.mk (fun h => ?_) (fun h => ?_) <;> (conv => whnf)
  rotate_left 1
  · rw [List.take_of_length_le (by omega)] at hall
    exact ⟨congrArg Value.bool (clean_all hall).symm, kp⟩
  obtain ⟨x, hx⟩ : ∃ x, ss[k]? = some x := ⟨_, List.getElem?_eq_getElem (by omega)⟩
  obtain ⟨b, o, A1, c1, hA, _, e0, e1, e2, e3, e4, _⟩ := ho.at_ hs hx
  refine VIdx.mul k rfl (by omega) hA ?_
  (conv => whnf)
  refine VLoads.five (kp.cell e0 id) (kp.cell e1 id) (kp.cell e2 id) (kp.cell e3 id) (kp.cell e4 id) ?_
  (conv => whnf)
  refine ⟨fun w1 hb1 hk1 => ?_⟩; have hb1_lt := Blk.lt hb1; have hk1_sz := hk1.size; (conv => whnf); (refine VReq.mk ⟨rfl, (fun u hu => List.all_eq_true.mp (show List.all _ (fun u => u.oneCell') = true by rfl) u hu)⟩ ?_; (conv => whnf)); refine VStore.all hb1 rfl ?_; intro w2 hb2 hk2 hk2_sz; have hk2 := Keep.fresh_ hk1 hk2 (Nat.le_refl _); (conv => whnf)
  have kp := kp.keepNo hk2
  refine VLoad.by_ ((hb2).cell 0) ?_; (conv => whnf)
  have good : okS x = true → k + 1 ≤ n ∧ (∀ s ∈ ss.take (k + 1), okS s = true) ∧ Keep No w w2 := fun h => ⟨by omega, take_snoc_all hx hall h, kp⟩
  (repeat' (first  | (refine VCmp.mk (fun h => ?_) (fun h => ?_) <;> first | (exfalso; omega) | (conv => whnf))  | (refine VRes.i64 (by omega) ?_; conv => whnf)  | (refine VReq.mk (by omega) ?_; conv => whnf)))
  iterate 5 (exact ⟨k + 1, ⟨rfl, rfl, rfl, trivial⟩, good (by simp [okS]; omega), by omega⟩)
  · refine VLoad.by_ ((hb2).cell 4) ?_; (conv => whnf)
    cases he : x.enc with
    | false =>
      (conv => whnf)
      exact ⟨congrArg Value.bool (clean_no hx (by simp [okS, he]; omega)).symm, kp⟩
    | true =>
      (conv => whnf)
      refine VRes.i64 (by omega) ?_; (conv => whnf)
      exact ⟨k + 1, ⟨rfl, rfl, rfl, trivial⟩, good (by simp [okS, he]; omega), by omega⟩
  · exact ⟨congrArg Value.bool (clean_no hx (by simp [okS]; omega)).symm, kp⟩

theorem refClean_ok (w : World) {X : Nat → Prop} {A : Option Addr} {n c : Nat} {cells : List Value} {ss : List Sn} (hs : Sl w 5 A n cells) (ho : Sns w X cells ss) (hn : n ≤ 1000000) :
    VC Tryd.prog 14 [.slice A n c] w (fun v w' => v = .bool (cleanB ss) ∧ w = w') := by
  have hl := ho.len hs
  refine VC.of tt_ok Tryd.func14 rfl (by decide +kernel) (Nat.le_of_ble_eq_true rfl) ?_; (conv => whnf)
  refine VLoop.by_ tt_ok (S := Nat) (fun k => [(0, .slice A n c), (3, .int .i64 k)]) (fun k w' => k ≤ n ∧ (∀ s ∈ ss.take k, okS s = true) ∧ w = w') (fun k => n - k) 0
    ⟨rfl, rfl, trivial⟩ ⟨by omega, by simp, rfl⟩ ?_
  rintro k w' ⟨hk, hall, rfl⟩
  (conv => whnf)
  refine VCmp.mk (fun h => ?_) (fun h => ?_) <;> (conv => whnf)
  rotate_left 1
  · rw [List.take_of_length_le (by omega)] at hall
    exact ⟨congrArg Value.bool (clean_all hall).symm, rfl⟩
  obtain ⟨x, hx⟩ : ∃ x, ss[k]? = some x := ⟨_, List.getElem?_eq_getElem (by omega)⟩
  obtain ⟨b, o, A1, c1, hA, hkn, e0, e1, e2, e3, e4, _⟩ := ho.at_ hs hx
  refine VIdx.mul k rfl hkn hA ?_
  (conv => whnf)
  refine VLoad.by_ e0 ?_
  (conv => whnf)
  have good : okS x = true → k + 1 ≤ n ∧ (∀ s ∈ ss.take (k + 1), okS s = true) ∧ w = w := fun h => ⟨by omega, take_snoc_all hx hall h, rfl⟩
  (repeat' (first  | (refine VCmp.mk (fun h => ?_) (fun h => ?_) <;> first | (exfalso; omega) | (conv => whnf))  | (refine VRes.i64 (by omega) ?_; conv => whnf)  | (refine VReq.mk (by omega) ?_; conv => whnf)))
  iterate 5 (exact ⟨k + 1, ⟨rfl, rfl, trivial⟩, good (by simp [okS]; omega), by omega⟩)
  · refine VIdx.mul k rfl hkn hA ?_
    (conv => whnf)
    refine VLoad.by_ e4 ?_
    cases he : x.enc with
    | false =>
      (conv => whnf)
      exact ⟨congrArg Value.bool (clean_no hx (by simp [okS, he]; omega)).symm, rfl⟩
    | true =>
      (conv => whnf)
      refine VRes.i64 (by omega) ?_; (conv => whnf)
      exact ⟨k + 1, ⟨rfl, rfl, trivial⟩, good (by simp [okS, he]; omega), by omega⟩
  · exact ⟨congrArg Value.bool (clean_no hx (by simp [okS]; omega)).symm, rfl⟩

theorem Count_ok (w : World) (p : Int) {X : Nat → Prop} {A : Option Addr} {n c : Nat} {cells : List Value} {ss : List Sn} (hs : Sl w 5 A n cells) (ho : Sns w X cells ss) (hn : n ≤ 1000000) :
    VC Tryd.prog 11 [.slice A n c, .int .i64 p] w (fun v w' => v = .int .i64 (countN p ss : Nat) ∧ Keep No w w') := by
  have hl := ho.len hs
  refine VC.of tt_ok Tryd.func11 rfl (by decide +kernel) (Nat.le_of_ble_eq_true rfl) ?_; (conv => whnf)
  refine VLoop.by_ tt_ok (S := Nat) (fun k => [(1, .int .i64 p), (5, .int .i64 (countN p (ss.take k) : Nat)), (8, .slice A n c), (9, .int .i64 n), (10, .int .i64 k)]) (fun k w' => k ≤ n ∧ Keep No w w') (fun k => n - k) 0
    ⟨rfl, rfl, rfl, rfl, rfl, trivial⟩ ⟨by omega, Keep.refl _ _⟩ ?_
  rintro k w' ⟨hk, kp⟩
  have hcl := countN_le p (ss.take k)
  have htk : (ss.take k).length ≤ ss.length := by rw [List.length_take]; omega
  (conv => whnf)
  refine VCmp.mk (fun h => ?_) (fun h => ?_) <;> (conv => whnf)
  rotate_left 1
  · rw [List.take_of_length_le (by omega)]
    exact ⟨rfl, kp⟩
  obtain ⟨x, hx⟩ : ∃ x, ss[k]? = some x := ⟨_, List.getElem?_eq_getElem (by omega)⟩
  have hsn := countN_snoc p ss k x hx
  obtain ⟨b, o, A1, c1, hA, _, e0, e1, e2, e3, e4, _⟩ := ho.at_ hs hx
  refine VIdx.mul k rfl (by omega) hA ?_
  (conv => whnf)
  refine VLoads.five (kp.cell e0 id) (kp.cell e1 id) (kp.cell e2 id) (kp.cell e3 id) (kp.cell e4 id) ?_
  (conv => whnf)
  refine ⟨fun w1 hb1 hk1 => ?_⟩; have hb1_lt := Blk.lt hb1; have hk1_sz := hk1.size; (conv => whnf); (refine VReq.mk ⟨rfl, (fun u hu => List.all_eq_true.mp (show List.all _ (fun u => u.oneCell') = true by rfl) u hu)⟩ ?_; (conv => whnf)); refine VStore.all hb1 rfl ?_; intro w2 hb2 hk2 hk2_sz; have hk2 := Keep.fresh_ hk1 hk2 (Nat.le_refl _); (conv => whnf)
  have kp := kp.keepNo hk2
  refine VLoad.by_ ((hb2).cell 0) ?_; (conv => whnf)
  refine VCmp.mk (fun h1 => ?_) (fun h1 => ?_) <;> (conv => whnf)
  · rw [if_pos h1] at hsn
    refine VRes.i64 (by omega) ?_
    (conv => whnf)
    refine VRes.i64 (by omega) ?_; (conv => whnf)
    exact ⟨k + 1, ⟨rfl, by rw [hsn]; rfl, rfl, rfl, rfl, trivial⟩, ⟨by omega, kp⟩, by omega⟩
  · rw [if_neg h1] at hsn
    refine VRes.i64 (by omega) ?_; (conv => whnf)
    exact ⟨k + 1, ⟨rfl, by rw [hsn]; rfl, rfl, rfl, rfl, trivial⟩, ⟨by omega, kp⟩, by omega⟩
end Go.Proofs.YtpofkhjkdkkajaaDoor
