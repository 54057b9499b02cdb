/-
  Gate: the reference's seen.
-/
import Derived.Test.YtpofkhjkdkkajaaDoorG1
namespace Go.Proofs.YtpofkhjkdkkajaaDoor
open Go V
open Pk (decodeP splitP PkV OpsN Ops)

theorem seen_ok (w : World) (p : Int) {A : Option Addr} {n c : Nat} {l : List UInt8} (hs : Sl w 1 A n (l.map vb)) (hn : n ≤ 100000) (hnc : n ≤ c) :
    VC Tryd.prog 26 [.int .i64 p, .slice A n c] w (fun v w' => SnV w' (fun k => Ty w' k TInt) v (snP p l) ∧ Keep No w w') := by
  have hl : l.length = n := by simpa using hs.len
  refine VC.of tt_ok Tryd.func26 rfl (by decide +kernel) (Nat.le_of_ble_eq_true rfl) ?_; (conv => whnf)
  refine ⟨fun w1 hr kp => ?_⟩; have hr_lt := Blk.lt hr; have kp_sz := kp.size; (conv => whnf)
  refine VFill.by_ rfl ?_; (conv => whnf)
  refine ⟨fun w2 hb2 hk2 => ?_⟩; have hb2_lt := Blk.lt hb2; have hk2_sz := hk2.size; (conv => whnf); (refine VReq.mk ⟨rfl, (fun u hu => List.all_eq_true.mp (show List.all _ (fun u => u.oneCell') = true by rfl) u hu)⟩ ?_; (conv => whnf)); refine VStore.all hb2 rfl ?_; intro w3 hb hk3 hk3_sz; have hk3 := Keep.fresh_ hk2 hk3 (Nat.le_refl _); (conv => whnf)
  have kp := kp.keepNo hk3; have hr := hr.keepNo hk3
  have w3_lt : w1.heap.size < w3.heap.size := Blk.lt hb
  change Blk w3 w1.heap.size TRs [iv p, iv 0, .slice none 0 0, iv n, .bool false] at hb
  (repeat' (first  | (refine VCmp.mk (fun h => ?_) (fun h => ?_) <;> first | (exfalso; omega) | (conv => whnf))  | (refine VRes.i64 (by omega) ?_; conv => whnf)  | (refine VReq.mk (by omega) ?_; conv => whnf)))
  · skip
    refine VIdx.sl (hs.keepNo kp) (0) (by first | rfl | omega) (by omega) (fun b_ o_ hA_ hc_ => ?_); (conv => whnf); refine VLoad.by_ hc_ ?_; (conv => whnf)
    refine VRes.andb (M := 16) rfl rfl (by decide) ?_
    (conv => whnf)
    refine VCmp.mk (fun h5 => ?_) (fun h5 => ?_) <;> (conv => whnf)
    · skip
      have hsn : snP p l = ⟨p, 0, [], (n : Nat), true⟩ := by
        refine Sn.ext_ rfl ?_ ?_ (by show ((l.length : Nat) : Int) = n; rw [hl]) ?_
        · show (if _ then _ else _) = _
          rw [if_neg (fun h => by simp [nego] at h; omega)]
        · show kindsP p l = []
          unfold kindsP
          rw [if_neg (fun h => by have := h.1; simp [nego] at this; omega)]
        · show (decide (p = 253) && (decide (0 < l.length) && decide ((l.getD 0 0).toNat &&& 16 ≠ 0))) = _
          rw [decide_eq_true (by omega), decide_eq_true (by omega), decide_eq_true (by omega)]; rfl
      refine VStore.one hb (Nat.le_of_ble_eq_true rfl) ?_
      intro w7 hb hk7 hk7_sz
      have hr := hr.keep hk7 (by omega)
      have kp := kp.fresh_ hk7 (by omega)
      (conv => whnf)
      refine VLoads.blk hb rfl ?_
      (conv => whnf)
      (refine VReq.mk ⟨rfl, (fun u hu => List.all_eq_true.mp (show List.all _ (fun u => u.oneCell') = true by rfl) u hu)⟩ ?_; (conv => whnf))
      refine VStore.all hr rfl ?_
      intro w8 hr8 hk8 hk8_sz
      have kp := kp.fresh_ hk8 (Nat.le_refl _)
      (conv => whnf)
      refine VLoads.blk hr8 rfl ?_
      (conv => whnf)
      exact ⟨SnV.mk (ks := []) (hsn) rfl (Sl.nil) (Nat.le_refl _) (fun a ha => by cases ha), kp⟩
    · skip
      have hsn : snP p l = ⟨p, 0, [], (n : Nat), false⟩ := by
        refine Sn.ext_ rfl ?_ ?_ (by show ((l.length : Nat) : Int) = n; rw [hl]) ?_
        · show (if _ then _ else _) = _
          rw [if_neg (fun h => by simp [nego] at h; omega)]
        · show kindsP p l = []
          unfold kindsP
          rw [if_neg (fun h => by have := h.1; simp [nego] at this; omega)]
        · show (decide (p = 253) && (decide (0 < l.length) && decide ((l.getD 0 0).toNat &&& 16 ≠ 0))) = _
          rw [decide_eq_true (by omega), decide_eq_true (by omega), decide_eq_false (by omega)]; rfl
      refine VStore.one hb (Nat.le_of_ble_eq_true rfl) ?_
      intro w7 hb hk7 hk7_sz
      have hr := hr.keep hk7 (by omega)
      have kp := kp.fresh_ hk7 (by omega)
      (conv => whnf)
      refine VLoads.blk hb rfl ?_
      (conv => whnf)
      (refine VReq.mk ⟨rfl, (fun u hu => List.all_eq_true.mp (show List.all _ (fun u => u.oneCell') = true by rfl) u hu)⟩ ?_; (conv => whnf))
      refine VStore.all hr rfl ?_
      intro w8 hr8 hk8 hk8_sz
      have kp := kp.fresh_ hk8 (Nat.le_refl _)
      (conv => whnf)
      refine VLoads.blk hr8 rfl ?_
      (conv => whnf)
      exact ⟨SnV.mk (ks := []) (hsn) rfl (Sl.nil) (Nat.le_refl _) (fun a ha => by cases ha), kp⟩
  · skip
    have hsn : snP p l = ⟨p, 0, [], (n : Nat), false⟩ := by
      refine Sn.ext_ rfl ?_ ?_ (by show ((l.length : Nat) : Int) = n; rw [hl]) ?_
      · show (if _ then _ else _) = _
        rw [if_neg (fun h => by simp [nego] at h; omega)]
      · show kindsP p l = []
        unfold kindsP
        rw [if_neg (fun h => by have := h.1; simp [nego] at this; omega)]
      · show (decide (p = 253) && (decide (0 < l.length) && decide ((l.getD 0 0).toNat &&& 16 ≠ 0))) = _
        rw [decide_eq_true (by omega), decide_eq_false (show ¬ 0 < l.length by omega)]; rfl
    refine VStore.one hb (Nat.le_of_ble_eq_true rfl) ?_
    intro w7 hb hk7 hk7_sz
    have hr := hr.keep hk7 (by omega)
    have kp := kp.fresh_ hk7 (by omega)
    (conv => whnf)
    refine VLoads.blk hb rfl ?_
    (conv => whnf)
    (refine VReq.mk ⟨rfl, (fun u hu => List.all_eq_true.mp (show List.all _ (fun u => u.oneCell') = true by rfl) u hu)⟩ ?_; (conv => whnf))
    refine VStore.all hr rfl ?_
    intro w8 hr8 hk8 hk8_sz
    have kp := kp.fresh_ hk8 (Nat.le_refl _)
    (conv => whnf)
    refine VLoads.blk hr8 rfl ?_
    (conv => whnf)
    exact ⟨SnV.mk (ks := []) (hsn) rfl (Sl.nil) (Nat.le_refl _) (fun a ha => by cases ha), kp⟩
  · skip
    refine (Pk.refDecode_ok w3 (hs.keepNo kp) (by omega) hnc).mono ?_
    rintro v w4 ⟨x, rfl, hx, hk4⟩
    have hx0 := hx
    obtain ⟨A4, n4, c4, rfl, _⟩ := hx0
    have kp := kp.keepNo hk4; have hr := hr.keepNo hk4; have hb := hb.keepNo hk4
    have hk4_sz := hk4.size
    (conv => whnf)
    refine ⟨fun w5 hb5 hk5 => ?_⟩; have hb5_lt := Blk.lt hb5; have hk5_sz := hk5.size; (conv => whnf); (refine VReq.mk ⟨rfl, (fun u hu => List.all_eq_true.mp (show List.all _ (fun u => u.oneCell') = true by rfl) u hu)⟩ ?_; (conv => whnf)); refine VStore.all hb5 rfl ?_; intro w6 hb6 hk6 hk6_sz; have hk6 := Keep.fresh_ hk5 hk6 (Nat.le_refl _); (conv => whnf)
    have kp := kp.keepNo hk6; have hr := hr.keepNo hk6; have hb := hb.keepNo hk6; have hx := hx.keepNo hk6
    refine VLoad.by_ ((hb6).cell 0) ?_; (conv => whnf)
    refine VStore.one hb (Nat.le_of_ble_eq_true rfl) ?_
    intro w7 hb hk7 hk7_sz
    have hr := hr.keep hk7 (by omega)
    have hb6 := hb6.keep hk7 (by omega)
    have kp := kp.fresh_ hk7 (by omega)
    have hx := hx.keepLo hk7 (by omega)
    (conv => whnf)
    refine VCmp.mk (fun h0 => ?_) (fun h0 => ?_) <;> (conv => whnf)
    · skip
      have hsn : snP p l = ⟨p, -1, [], (n : Nat), false⟩ := by
        refine Sn.ext_ rfl ?_ ?_ (by show ((l.length : Nat) : Int) = n; rw [hl]) ?_
        · show (if _ then _ else _) = _
          rw [if_pos (by first | exact .inl (by simp [nego]; omega) | exact .inr (by omega)), if_neg h0]
        · show kindsP p l = []
          unfold kindsP
          rw [if_neg (fun h => h0 h.2.1)]
        · show (decide (p = 253) && _) = _
          rw [decide_eq_false (by omega)]; rfl
      refine VStore.one hb (Nat.le_of_ble_eq_true rfl) ?_
      intro w7 hb hk7 hk7_sz
      have hr := hr.keep hk7 (by omega)
      have kp := kp.fresh_ hk7 (by omega)
      (conv => whnf)
      refine VCmp.mk (fun h => absurd h h0) (fun _ => ?_)
      (conv => whnf)
      refine VLoads.blk hb rfl ?_
      (conv => whnf)
      (refine VReq.mk ⟨rfl, (fun u hu => List.all_eq_true.mp (show List.all _ (fun u => u.oneCell') = true by rfl) u hu)⟩ ?_; (conv => whnf))
      refine VStore.all hr rfl ?_
      intro w8 hr8 hk8 hk8_sz
      have kp := kp.fresh_ hk8 (Nat.le_refl _)
      (conv => whnf)
      refine VLoads.blk hr8 rfl ?_
      (conv => whnf)
      exact ⟨SnV.mk (ks := []) (hsn) rfl (Sl.nil) (Nat.le_refl _) (fun a ha => by cases ha), kp⟩
    have h0 : (decodeP l).2 = 0 := by omega
    refine VCmp.mk (fun _ => ?_) (fun h => absurd h0 h)
    (conv => whnf)
    refine VCmp.mk (fun _ => ?_) (fun h => absurd (by omega) h)
    (conv => whnf)
    refine VLoad.by_ ((hb6).cell 0) ?_; (conv => whnf)
    refine VCmp.mk (fun h1 => ?_) (fun h1 => ?_) <;> (conv => whnf)
    rotate_left 1
    · skip
      have hsn : snP p l = ⟨p, (decodeP l).1.code, [], (n : Nat), false⟩ := by
        refine Sn.ext_ rfl ?_ ?_ (by show ((l.length : Nat) : Int) = n; rw [hl]) ?_
        · show (if _ then _ else _) = _
          rw [if_pos (by first | exact .inl (by simp [nego]; omega) | exact .inr (by omega)), if_pos h0]
        · show kindsP p l = []
          unfold kindsP
          rw [if_neg (by first | exact (fun h => by have := h.2.2.1; have := h.2.2.2; omega) | exact (fun h => by have := h.1; simp [nego] at this; omega))]
        · show (decide (p = 253) && _) = _
          rw [decide_eq_false (by omega)]; rfl
      refine VLoads.blk hb rfl ?_
      (conv => whnf)
      (refine VReq.mk ⟨rfl, (fun u hu => List.all_eq_true.mp (show List.all _ (fun u => u.oneCell') = true by rfl) u hu)⟩ ?_; (conv => whnf))
      refine VStore.all hr rfl ?_
      intro w8 hr8 hk8 hk8_sz
      have kp := kp.fresh_ hk8 (Nat.le_refl _)
      (conv => whnf)
      refine VLoads.blk hr8 rfl ?_
      (conv => whnf)
      exact ⟨SnV.mk (ks := []) (hsn) rfl (Sl.nil) (Nat.le_refl _) (fun a ha => by cases ha), kp⟩
    refine VLoad.by_ ((hb6).cell 0) ?_; (conv => whnf)
    refine VCmp.mk (fun h2 => ?_) (fun h2 => ?_) <;> (conv => whnf)
    rotate_left 1
    · skip
      have hsn : snP p l = ⟨p, (decodeP l).1.code, [], (n : Nat), false⟩ := by
        refine Sn.ext_ rfl ?_ ?_ (by show ((l.length : Nat) : Int) = n; rw [hl]) ?_
        · show (if _ then _ else _) = _
          rw [if_pos (by first | exact .inl (by simp [nego]; omega) | exact .inr (by omega)), if_pos h0]
        · show kindsP p l = []
          unfold kindsP
          rw [if_neg (by first | exact (fun h => by have := h.2.2.1; have := h.2.2.2; omega) | exact (fun h => by have := h.1; simp [nego] at this; omega))]
        · show (decide (p = 253) && _) = _
          rw [decide_eq_false (by omega)]; rfl
      refine VLoads.blk hb rfl ?_
      (conv => whnf)
      (refine VReq.mk ⟨rfl, (fun u hu => List.all_eq_true.mp (show List.all _ (fun u => u.oneCell') = true by rfl) u hu)⟩ ?_; (conv => whnf))
      refine VStore.all hr rfl ?_
      intro w8 hr8 hk8 hk8_sz
      have kp := kp.fresh_ hk8 (Nat.le_refl _)
      (conv => whnf)
      refine VLoads.blk hr8 rfl ?_
      (conv => whnf)
      exact ⟨SnV.mk (ks := []) (hsn) rfl (Sl.nil) (Nat.le_refl _) (fun a ha => by cases ha), kp⟩
    refine VLoad.by_ ((hb6).cell 2) ?_; (conv => whnf)
    obtain ⟨A4', n4', c4', e4, hs4, hc4, hb4⟩ := hx
    cases e4
    have hdl := decodeP_len l
    have hl4 : (decodeP l).1.data.length = n4 := by simpa using hs4.len
    refine (Pk.refSplit_ok w7 hs4 (by omega) hc4).mono ?_
    rintro v w8 ⟨⟨A9, n9, c9, ce9, rfl, hs9, hp9, hc9, hb9⟩, hk9⟩
    have hk9_sz := hk9.size
    have kp := kp.keepNo hk9; have hr := hr.keepNo hk9; have hb := hb.keepNo hk9
    have hspl := splitP_len (decodeP l).1.data
    have hn9 := hp9.len hs9
    (conv => whnf)
    have kds : ∀ k x, (splitP (decodeP l).1.data).1[k]? = some x → (((splitP (decodeP l).1.data).1.take (k + 1)).map fun o => o.t) = (((splitP (decodeP l).1.data).1.take k).map fun o => o.t) ++ [x.t] := fun k x hx => by
      rw [List.take_add_one, hx]; simp
    refine VLoop.by_ tt_ok (S := Nat × Option Addr × Nat) (fun | (k, _, _) => [(4, .pointer (some ⟨w.heap.size, 0, none⟩)), (5, .pointer (some ⟨w1.heap.size, 0, none⟩)), (8, .slice A9 n9 c9), (10, .int .i64 k)])
      (fun | (k, A', c') => fun w' => k ≤ n9 ∧ Blk w' w1.heap.size TRs [iv p, iv (decodeP l).1.code, .slice A' k c', iv n, .bool false] ∧ Own w' w8.heap.size TInt 1 A' k c' ((((splitP (decodeP l).1.data).1.take k).map fun o => o.t).map iv) ∧ Keep (fun k => k = w1.heap.size) w8 w') (fun | (k, _, _) => n9 - k)
      (0, none, 0) ⟨rfl, rfl, rfl, rfl, trivial⟩ ⟨by omega, hb, Own.nil _ _ _ _, Keep.refl _ _⟩ ?_
    rintro ⟨k, A', c'⟩ wq ⟨hk, hb, hown, kq⟩
    have kp8 := kp
    have kp := kp.toNo kq (fun i e => by have e : i = w1.heap.size := e; omega)
    have hr := hr.keep kq (by omega)
    have kq_sz := kq.size
    (conv => whnf)
    refine VCmp.mk (fun h3 => ?_) (fun h3 => ?_) <;> (conv => whnf)
    rotate_left 1
    · obtain rfl : k = n9 := by omega
      rw [List.take_of_length_le (by omega)] at hown
      have hsn : snP p l = ⟨p, (decodeP l).1.code, (splitP (decodeP l).1.data).1.map (fun o => o.t), (n : Nat), false⟩ := by
        refine Sn.ext_ rfl ?_ ?_ (by show ((l.length : Nat) : Int) = n; rw [hl]) ?_
        · show (if _ then _ else _) = _
          rw [if_pos (.inl (by simp [nego]; omega)), if_pos h0]
        · show kindsP p l = _
          unfold kindsP
          rw [if_pos ⟨by simp [nego]; omega, h0, h1, h2⟩]
        · show (decide (p = 253) && _) = _
          rw [decide_eq_false (by omega)]; rfl
      refine VLoads.blk hb rfl ?_
      (conv => whnf)
      (refine VReq.mk ⟨rfl, (fun u hu => List.all_eq_true.mp (show List.all _ (fun u => u.oneCell') = true by rfl) u hu)⟩ ?_; (conv => whnf))
      refine VStore.all hr rfl ?_
      intro w8 hr8 hk8 hk8_sz
      have kp := kp.fresh_ hk8 (Nat.le_refl _)
      have ho9 := hown.keep hk8 (fun a ha e => by have := (hown.type_ne ha hr (by decide)); exact this e)
      (conv => whnf)
      refine VLoads.blk hr8 rfl ?_
      (conv => whnf)
      exact ⟨SnV.mk (ks := (splitP (decodeP l).1.data).1.map (fun o => o.t)) (hsn) (by rw [List.length_map]; exact hn9) (Sl.ofOwn ho9) (ho9.le) (fun a ha => ho9.ty ha), kp⟩
    obtain ⟨y, hy⟩ : ∃ y, (splitP (decodeP l).1.data).1[k]? = some y := ⟨_, List.getElem?_eq_getElem (by omega)⟩
    obtain ⟨b, o, A1, c1, hA, hkn, e0, e1, _⟩ := hp9.at_ hs9 hy
    have hbb : ¬ b = w1.heap.size := by have := hb9 _ hA; dsimp only at this; omega
    have e0 := kq.cell e0 hbb
    refine VDraw.by_ tt_ok rfl (.take 0 (.take 1 (.take 2 (.take 3 (.take 4 (.take 5 (.take 6 (.one 7 (.one 8 (.take 9 (.one 10 .done))))))))))) (by decide +kernel) (fun x => x.cell? ⟨w1.heap.size, 2, none⟩ = some (.slice A' k c') ∧ x.cell? ⟨b, o + k * 2, none⟩ = some (.int .i64 y.t)) (fun x h1 h2 h3 h4 => ⟨(Keep.ofHeap h1 h2 h3 h4).cell (hb.cell 2) id, (Keep.ofHeap h1 h2 h3 h4).cell e0 id⟩) (fun wb hdb kdb => ?_)
    have kp := kp.keepNo kdb; have hb := hb.keepNo kdb; have hown := hown.keepNo kdb; have kq := kq.keepNo kdb
    have e0 := kdb.cell e0 id
    (conv => whnf)
    refine VLoad.by_ (fun x hx => hx.1) ?_
    (conv => whnf)
    refine VIdx.mul k rfl (by omega) hA ?_
    (conv => whnf)
    refine VLoad.by_ (fun x hx => hx.2) ?_
    (conv => whnf)
    refine VFill.by_ rfl ?_; (conv => whnf)
    refine ⟨fun wc hbc hkc => ?_⟩; have hbc_lt := Blk.lt hbc; have hkc_sz := hkc.size; (conv => whnf)
    have kp := kp.keepNo hkc; have hb := hb.keepNo hkc; have hown := hown.keepNo hkc; have kq := kq.keepNo hkc
    have e0 := hkc.cell e0 id
    refine VOwe.same ⟨hb.cell 2, e0⟩ ?_
    (conv => whnf)
    refine appIv kq hown hbc rfl (by omega) ?_
    intro A2 c2 wd2 ho2 kq2 hkA
    have hb := hb.keep hkA (fun ⟨a, ha, e⟩ => hown.type_ne ha hb (by decide) e)
    have e0 := hkA.cell e0 (fun ⟨a, ha, e⟩ => by have := (hown.base_ ha).1; have e : a.block = b := e; have := hs9.lt (by omega) hA; dsimp only at this; omega)
    (conv => whnf)
    refine VOwe.same ⟨hb.cell 2, e0⟩ ?_
    (conv => whnf)
    refine VStore.one hb (Nat.le_of_ble_eq_true rfl) ?_
    intro we hb hke hke_sz
    have ho3 := ho2.keep hke (fun a ha e => by have e : a.block = w1.heap.size := e; have := (ho2.base_ ha).1; omega)
    have kq3 := kq2.trans hke
    (conv => whnf)
    refine VOwe.to (fun _ => True) (fun h => absurd h (by decide +kernel)) trivial ?_; (conv => whnf)
    refine VRes.i64 (by omega) ?_; (conv => whnf)
    exact ⟨(k + 1, A2, c2), ⟨rfl, rfl, rfl, rfl, trivial⟩, ⟨by omega, hb, by rw [kds k y hy]; exact ho3, kq3⟩, by dsimp only; omega⟩
  · skip
    refine (Pk.refDecode_ok w3 (hs.keepNo kp) (by omega) hnc).mono ?_
    rintro v w4 ⟨x, rfl, hx, hk4⟩
    have hx0 := hx
    obtain ⟨A4, n4, c4, rfl, _⟩ := hx0
    have kp := kp.keepNo hk4; have hr := hr.keepNo hk4; have hb := hb.keepNo hk4
    have hk4_sz := hk4.size
    (conv => whnf)
    refine ⟨fun w5 hb5 hk5 => ?_⟩; have hb5_lt := Blk.lt hb5; have hk5_sz := hk5.size; (conv => whnf); (refine VReq.mk ⟨rfl, (fun u hu => List.all_eq_true.mp (show List.all _ (fun u => u.oneCell') = true by rfl) u hu)⟩ ?_; (conv => whnf)); refine VStore.all hb5 rfl ?_; intro w6 hb6 hk6 hk6_sz; have hk6 := Keep.fresh_ hk5 hk6 (Nat.le_refl _); (conv => whnf)
    have kp := kp.keepNo hk6; have hr := hr.keepNo hk6; have hb := hb.keepNo hk6; have hx := hx.keepNo hk6
    refine VLoad.by_ ((hb6).cell 0) ?_; (conv => whnf)
    refine VStore.one hb (Nat.le_of_ble_eq_true rfl) ?_
    intro w7 hb hk7 hk7_sz
    have hr := hr.keep hk7 (by omega)
    have hb6 := hb6.keep hk7 (by omega)
    have kp := kp.fresh_ hk7 (by omega)
    have hx := hx.keepLo hk7 (by omega)
    (conv => whnf)
    refine VCmp.mk (fun h0 => ?_) (fun h0 => ?_) <;> (conv => whnf)
    · skip
      have hsn : snP p l = ⟨p, -1, [], (n : Nat), false⟩ := by
        refine Sn.ext_ rfl ?_ ?_ (by show ((l.length : Nat) : Int) = n; rw [hl]) ?_
        · show (if _ then _ else _) = _
          rw [if_pos (by first | exact .inl (by simp [nego]; omega) | exact .inr (by omega)), if_neg h0]
        · show kindsP p l = []
          unfold kindsP
          rw [if_neg (fun h => h0 h.2.1)]
        · show (decide (p = 253) && _) = _
          rw [decide_eq_false (by omega)]; rfl
      refine VStore.one hb (Nat.le_of_ble_eq_true rfl) ?_
      intro w7 hb hk7 hk7_sz
      have hr := hr.keep hk7 (by omega)
      have kp := kp.fresh_ hk7 (by omega)
      (conv => whnf)
      refine VCmp.mk (fun h => absurd h h0) (fun _ => ?_)
      (conv => whnf)
      refine VLoads.blk hb rfl ?_
      (conv => whnf)
      (refine VReq.mk ⟨rfl, (fun u hu => List.all_eq_true.mp (show List.all _ (fun u => u.oneCell') = true by rfl) u hu)⟩ ?_; (conv => whnf))
      refine VStore.all hr rfl ?_
      intro w8 hr8 hk8 hk8_sz
      have kp := kp.fresh_ hk8 (Nat.le_refl _)
      (conv => whnf)
      refine VLoads.blk hr8 rfl ?_
      (conv => whnf)
      exact ⟨SnV.mk (ks := []) (hsn) rfl (Sl.nil) (Nat.le_refl _) (fun a ha => by cases ha), kp⟩
    have h0 : (decodeP l).2 = 0 := by omega
    refine VCmp.mk (fun _ => ?_) (fun h => absurd h0 h)
    (conv => whnf)
    refine VCmp.mk (fun h => absurd (by omega) h) (fun _ => ?_)
    (conv => whnf)
    have hsn : snP p l = ⟨p, (decodeP l).1.code, [], (n : Nat), false⟩ := by
      refine Sn.ext_ rfl ?_ ?_ (by show ((l.length : Nat) : Int) = n; rw [hl]) ?_
      · show (if _ then _ else _) = _
        rw [if_pos (by first | exact .inl (by simp [nego]; omega) | exact .inr (by omega)), if_pos h0]
      · show kindsP p l = []
        unfold kindsP
        rw [if_neg (by first | exact (fun h => by have := h.2.2.1; have := h.2.2.2; omega) | exact (fun h => by have := h.1; simp [nego] at this; omega))]
      · show (decide (p = 253) && _) = _
        rw [decide_eq_false (by omega)]; rfl
    refine VLoads.blk hb rfl ?_
    (conv => whnf)
    (refine VReq.mk ⟨rfl, (fun u hu => List.all_eq_true.mp (show List.all _ (fun u => u.oneCell') = true by rfl) u hu)⟩ ?_; (conv => whnf))
    refine VStore.all hr rfl ?_
    intro w8 hr8 hk8 hk8_sz
    have kp := kp.fresh_ hk8 (Nat.le_refl _)
    (conv => whnf)
    refine VLoads.blk hr8 rfl ?_
    (conv => whnf)
    exact ⟨SnV.mk (ks := []) (hsn) rfl (Sl.nil) (Nat.le_refl _) (fun a ha => by cases ha), kp⟩
  · skip
    refine (Pk.refDecode_ok w3 (hs.keepNo kp) (by omega) hnc).mono ?_
    rintro v w4 ⟨x, rfl, hx, hk4⟩
    have hx0 := hx
    obtain ⟨A4, n4, c4, rfl, _⟩ := hx0
    have kp := kp.keepNo hk4; have hr := hr.keepNo hk4; have hb := hb.keepNo hk4
    have hk4_sz := hk4.size
    (conv => whnf)
    refine ⟨fun w5 hb5 hk5 => ?_⟩; have hb5_lt := Blk.lt hb5; have hk5_sz := hk5.size; (conv => whnf); (refine VReq.mk ⟨rfl, (fun u hu => List.all_eq_true.mp (show List.all _ (fun u => u.oneCell') = true by rfl) u hu)⟩ ?_; (conv => whnf)); refine VStore.all hb5 rfl ?_; intro w6 hb6 hk6 hk6_sz; have hk6 := Keep.fresh_ hk5 hk6 (Nat.le_refl _); (conv => whnf)
    have kp := kp.keepNo hk6; have hr := hr.keepNo hk6; have hb := hb.keepNo hk6; have hx := hx.keepNo hk6
    refine VLoad.by_ ((hb6).cell 0) ?_; (conv => whnf)
    refine VStore.one hb (Nat.le_of_ble_eq_true rfl) ?_
    intro w7 hb hk7 hk7_sz
    have hr := hr.keep hk7 (by omega)
    have hb6 := hb6.keep hk7 (by omega)
    have kp := kp.fresh_ hk7 (by omega)
    have hx := hx.keepLo hk7 (by omega)
    (conv => whnf)
    refine VCmp.mk (fun h0 => ?_) (fun h0 => ?_) <;> (conv => whnf)
    · skip
      have hsn : snP p l = ⟨p, -1, [], (n : Nat), false⟩ := by
        refine Sn.ext_ rfl ?_ ?_ (by show ((l.length : Nat) : Int) = n; rw [hl]) ?_
        · show (if _ then _ else _) = _
          rw [if_pos (by first | exact .inl (by simp [nego]; omega) | exact .inr (by omega)), if_neg h0]
        · show kindsP p l = []
          unfold kindsP
          rw [if_neg (fun h => h0 h.2.1)]
        · show (decide (p = 253) && _) = _
          rw [decide_eq_false (by omega)]; rfl
      refine VStore.one hb (Nat.le_of_ble_eq_true rfl) ?_
      intro w7 hb hk7 hk7_sz
      have hr := hr.keep hk7 (by omega)
      have kp := kp.fresh_ hk7 (by omega)
      (conv => whnf)
      refine VCmp.mk (fun h => absurd h h0) (fun _ => ?_)
      (conv => whnf)
      refine VLoads.blk hb rfl ?_
      (conv => whnf)
      (refine VReq.mk ⟨rfl, (fun u hu => List.all_eq_true.mp (show List.all _ (fun u => u.oneCell') = true by rfl) u hu)⟩ ?_; (conv => whnf))
      refine VStore.all hr rfl ?_
      intro w8 hr8 hk8 hk8_sz
      have kp := kp.fresh_ hk8 (Nat.le_refl _)
      (conv => whnf)
      refine VLoads.blk hr8 rfl ?_
      (conv => whnf)
      exact ⟨SnV.mk (ks := []) (hsn) rfl (Sl.nil) (Nat.le_refl _) (fun a ha => by cases ha), kp⟩
    have h0 : (decodeP l).2 = 0 := by omega
    refine VCmp.mk (fun _ => ?_) (fun h => absurd h0 h)
    (conv => whnf)
    refine VCmp.mk (fun _ => ?_) (fun h => absurd (by omega) h)
    (conv => whnf)
    refine VLoad.by_ ((hb6).cell 0) ?_; (conv => whnf)
    refine VCmp.mk (fun h1 => ?_) (fun h1 => ?_) <;> (conv => whnf)
    rotate_left 1
    · skip
      have hsn : snP p l = ⟨p, (decodeP l).1.code, [], (n : Nat), false⟩ := by
        refine Sn.ext_ rfl ?_ ?_ (by show ((l.length : Nat) : Int) = n; rw [hl]) ?_
        · show (if _ then _ else _) = _
          rw [if_pos (by first | exact .inl (by simp [nego]; omega) | exact .inr (by omega)), if_pos h0]
        · show kindsP p l = []
          unfold kindsP
          rw [if_neg (by first | exact (fun h => by have := h.2.2.1; have := h.2.2.2; omega) | exact (fun h => by have := h.1; simp [nego] at this; omega))]
        · show (decide (p = 253) && _) = _
          rw [decide_eq_false (by omega)]; rfl
      refine VLoads.blk hb rfl ?_
      (conv => whnf)
      (refine VReq.mk ⟨rfl, (fun u hu => List.all_eq_true.mp (show List.all _ (fun u => u.oneCell') = true by rfl) u hu)⟩ ?_; (conv => whnf))
      refine VStore.all hr rfl ?_
      intro w8 hr8 hk8 hk8_sz
      have kp := kp.fresh_ hk8 (Nat.le_refl _)
      (conv => whnf)
      refine VLoads.blk hr8 rfl ?_
      (conv => whnf)
      exact ⟨SnV.mk (ks := []) (hsn) rfl (Sl.nil) (Nat.le_refl _) (fun a ha => by cases ha), kp⟩
    refine VLoad.by_ ((hb6).cell 0) ?_; (conv => whnf)
    refine VCmp.mk (fun h2 => ?_) (fun h2 => ?_) <;> (conv => whnf)
    rotate_left 1
    · skip
      have hsn : snP p l = ⟨p, (decodeP l).1.code, [], (n : Nat), false⟩ := by
        refine Sn.ext_ rfl ?_ ?_ (by show ((l.length : Nat) : Int) = n; rw [hl]) ?_
        · show (if _ then _ else _) = _
          rw [if_pos (by first | exact .inl (by simp [nego]; omega) | exact .inr (by omega)), if_pos h0]
        · show kindsP p l = []
          unfold kindsP
          rw [if_neg (by first | exact (fun h => by have := h.2.2.1; have := h.2.2.2; omega) | exact (fun h => by have := h.1; simp [nego] at this; omega))]
        · show (decide (p = 253) && _) = _
          rw [decide_eq_false (by omega)]; rfl
      refine VLoads.blk hb rfl ?_
      (conv => whnf)
      (refine VReq.mk ⟨rfl, (fun u hu => List.all_eq_true.mp (show List.all _ (fun u => u.oneCell') = true by rfl) u hu)⟩ ?_; (conv => whnf))
      refine VStore.all hr rfl ?_
      intro w8 hr8 hk8 hk8_sz
      have kp := kp.fresh_ hk8 (Nat.le_refl _)
      (conv => whnf)
      refine VLoads.blk hr8 rfl ?_
      (conv => whnf)
      exact ⟨SnV.mk (ks := []) (hsn) rfl (Sl.nil) (Nat.le_refl _) (fun a ha => by cases ha), kp⟩
    refine VLoad.by_ ((hb6).cell 2) ?_; (conv => whnf)
    obtain ⟨A4', n4', c4', e4, hs4, hc4, hb4⟩ := hx
    cases e4
    have hdl := decodeP_len l
    have hl4 : (decodeP l).1.data.length = n4 := by simpa using hs4.len
    refine (Pk.refSplit_ok w7 hs4 (by omega) hc4).mono ?_
    rintro v w8 ⟨⟨A9, n9, c9, ce9, rfl, hs9, hp9, hc9, hb9⟩, hk9⟩
    have hk9_sz := hk9.size
    have kp := kp.keepNo hk9; have hr := hr.keepNo hk9; have hb := hb.keepNo hk9
    have hspl := splitP_len (decodeP l).1.data
    have hn9 := hp9.len hs9
    (conv => whnf)
    have kds : ∀ k x, (splitP (decodeP l).1.data).1[k]? = some x → (((splitP (decodeP l).1.data).1.take (k + 1)).map fun o => o.t) = (((splitP (decodeP l).1.data).1.take k).map fun o => o.t) ++ [x.t] := fun k x hx => by
      rw [List.take_add_one, hx]; simp
    refine VLoop.by_ tt_ok (S := Nat × Option Addr × Nat) (fun | (k, _, _) => [(4, .pointer (some ⟨w.heap.size, 0, none⟩)), (5, .pointer (some ⟨w1.heap.size, 0, none⟩)), (8, .slice A9 n9 c9), (10, .int .i64 k)])
      (fun | (k, A', c') => fun w' => k ≤ n9 ∧ Blk w' w1.heap.size TRs [iv p, iv (decodeP l).1.code, .slice A' k c', iv n, .bool false] ∧ Own w' w8.heap.size TInt 1 A' k c' ((((splitP (decodeP l).1.data).1.take k).map fun o => o.t).map iv) ∧ Keep (fun k => k = w1.heap.size) w8 w') (fun | (k, _, _) => n9 - k)
      (0, none, 0) ⟨rfl, rfl, rfl, rfl, trivial⟩ ⟨by omega, hb, Own.nil _ _ _ _, Keep.refl _ _⟩ ?_
    rintro ⟨k, A', c'⟩ wq ⟨hk, hb, hown, kq⟩
    have kp8 := kp
    have kp := kp.toNo kq (fun i e => by have e : i = w1.heap.size := e; omega)
    have hr := hr.keep kq (by omega)
    have kq_sz := kq.size
    (conv => whnf)
    refine VCmp.mk (fun h3 => ?_) (fun h3 => ?_) <;> (conv => whnf)
    rotate_left 1
    · obtain rfl : k = n9 := by omega
      rw [List.take_of_length_le (by omega)] at hown
      have hsn : snP p l = ⟨p, (decodeP l).1.code, (splitP (decodeP l).1.data).1.map (fun o => o.t), (n : Nat), false⟩ := by
        refine Sn.ext_ rfl ?_ ?_ (by show ((l.length : Nat) : Int) = n; rw [hl]) ?_
        · show (if _ then _ else _) = _
          rw [if_pos (.inl (by simp [nego]; omega)), if_pos h0]
        · show kindsP p l = _
          unfold kindsP
          rw [if_pos ⟨by simp [nego]; omega, h0, h1, h2⟩]
        · show (decide (p = 253) && _) = _
          rw [decide_eq_false (by omega)]; rfl
      refine VLoads.blk hb rfl ?_
      (conv => whnf)
      (refine VReq.mk ⟨rfl, (fun u hu => List.all_eq_true.mp (show List.all _ (fun u => u.oneCell') = true by rfl) u hu)⟩ ?_; (conv => whnf))
      refine VStore.all hr rfl ?_
      intro w8 hr8 hk8 hk8_sz
      have kp := kp.fresh_ hk8 (Nat.le_refl _)
      have ho9 := hown.keep hk8 (fun a ha e => by have := (hown.type_ne ha hr (by decide)); exact this e)
      (conv => whnf)
      refine VLoads.blk hr8 rfl ?_
      (conv => whnf)
      exact ⟨SnV.mk (ks := (splitP (decodeP l).1.data).1.map (fun o => o.t)) (hsn) (by rw [List.length_map]; exact hn9) (Sl.ofOwn ho9) (ho9.le) (fun a ha => ho9.ty ha), kp⟩
    obtain ⟨y, hy⟩ : ∃ y, (splitP (decodeP l).1.data).1[k]? = some y := ⟨_, List.getElem?_eq_getElem (by omega)⟩
    obtain ⟨b, o, A1, c1, hA, hkn, e0, e1, _⟩ := hp9.at_ hs9 hy
    have hbb : ¬ b = w1.heap.size := by have := hb9 _ hA; dsimp only at this; omega
    have e0 := kq.cell e0 hbb
    refine VDraw.by_ tt_ok rfl (.take 0 (.take 1 (.take 2 (.take 3 (.take 4 (.take 5 (.take 6 (.one 7 (.one 8 (.take 9 (.one 10 .done))))))))))) (by decide +kernel) (fun x => x.cell? ⟨w1.heap.size, 2, none⟩ = some (.slice A' k c') ∧ x.cell? ⟨b, o + k * 2, none⟩ = some (.int .i64 y.t)) (fun x h1 h2 h3 h4 => ⟨(Keep.ofHeap h1 h2 h3 h4).cell (hb.cell 2) id, (Keep.ofHeap h1 h2 h3 h4).cell e0 id⟩) (fun wb hdb kdb => ?_)
    have kp := kp.keepNo kdb; have hb := hb.keepNo kdb; have hown := hown.keepNo kdb; have kq := kq.keepNo kdb
    have e0 := kdb.cell e0 id
    (conv => whnf)
    refine VLoad.by_ (fun x hx => hx.1) ?_
    (conv => whnf)
    refine VIdx.mul k rfl (by omega) hA ?_
    (conv => whnf)
    refine VLoad.by_ (fun x hx => hx.2) ?_
    (conv => whnf)
    refine VFill.by_ rfl ?_; (conv => whnf)
    refine ⟨fun wc hbc hkc => ?_⟩; have hbc_lt := Blk.lt hbc; have hkc_sz := hkc.size; (conv => whnf)
    have kp := kp.keepNo hkc; have hb := hb.keepNo hkc; have hown := hown.keepNo hkc; have kq := kq.keepNo hkc
    have e0 := hkc.cell e0 id
    refine VOwe.same ⟨hb.cell 2, e0⟩ ?_
    (conv => whnf)
    refine appIv kq hown hbc rfl (by omega) ?_
    intro A2 c2 wd2 ho2 kq2 hkA
    have hb := hb.keep hkA (fun ⟨a, ha, e⟩ => hown.type_ne ha hb (by decide) e)
    have e0 := hkA.cell e0 (fun ⟨a, ha, e⟩ => by have := (hown.base_ ha).1; have e : a.block = b := e; have := hs9.lt (by omega) hA; dsimp only at this; omega)
    (conv => whnf)
    refine VOwe.same ⟨hb.cell 2, e0⟩ ?_
    (conv => whnf)
    refine VStore.one hb (Nat.le_of_ble_eq_true rfl) ?_
    intro we hb hke hke_sz
    have ho3 := ho2.keep hke (fun a ha e => by have e : a.block = w1.heap.size := e; have := (ho2.base_ ha).1; omega)
    have kq3 := kq2.trans hke
    (conv => whnf)
    refine VOwe.to (fun _ => True) (fun h => absurd h (by decide +kernel)) trivial ?_; (conv => whnf)
    refine VRes.i64 (by omega) ?_; (conv => whnf)
    exact ⟨(k + 1, A2, c2), ⟨rfl, rfl, rfl, rfl, trivial⟩, ⟨by omega, hb, by rw [kds k y hy]; exact ho3, kq3⟩, by dsimp only; omega⟩
  · skip
    refine (Pk.refDecode_ok w3 (hs.keepNo kp) (by omega) hnc).mono ?_
    rintro v w4 ⟨x, rfl, hx, hk4⟩
    have hx0 := hx
    obtain ⟨A4, n4, c4, rfl, _⟩ := hx0
    have kp := kp.keepNo hk4; have hr := hr.keepNo hk4; have hb := hb.keepNo hk4
    have hk4_sz := hk4.size
    (conv => whnf)
    refine ⟨fun w5 hb5 hk5 => ?_⟩; have hb5_lt := Blk.lt hb5; have hk5_sz := hk5.size; (conv => whnf); (refine VReq.mk ⟨rfl, (fun u hu => List.all_eq_true.mp (show List.all _ (fun u => u.oneCell') = true by rfl) u hu)⟩ ?_; (conv => whnf)); refine VStore.all hb5 rfl ?_; intro w6 hb6 hk6 hk6_sz; have hk6 := Keep.fresh_ hk5 hk6 (Nat.le_refl _); (conv => whnf)
    have kp := kp.keepNo hk6; have hr := hr.keepNo hk6; have hb := hb.keepNo hk6; have hx := hx.keepNo hk6
    refine VLoad.by_ ((hb6).cell 0) ?_; (conv => whnf)
    refine VStore.one hb (Nat.le_of_ble_eq_true rfl) ?_
    intro w7 hb hk7 hk7_sz
    have hr := hr.keep hk7 (by omega)
    have hb6 := hb6.keep hk7 (by omega)
    have kp := kp.fresh_ hk7 (by omega)
    have hx := hx.keepLo hk7 (by omega)
    (conv => whnf)
    refine VCmp.mk (fun h0 => ?_) (fun h0 => ?_) <;> (conv => whnf)
    · skip
      have hsn : snP p l = ⟨p, -1, [], (n : Nat), false⟩ := by
        refine Sn.ext_ rfl ?_ ?_ (by show ((l.length : Nat) : Int) = n; rw [hl]) ?_
        · show (if _ then _ else _) = _
          rw [if_pos (by first | exact .inl (by simp [nego]; omega) | exact .inr (by omega)), if_neg h0]
        · show kindsP p l = []
          unfold kindsP
          rw [if_neg (fun h => h0 h.2.1)]
        · show (decide (p = 253) && _) = _
          rw [decide_eq_false (by omega)]; rfl
      refine VStore.one hb (Nat.le_of_ble_eq_true rfl) ?_
      intro w7 hb hk7 hk7_sz
      have hr := hr.keep hk7 (by omega)
      have kp := kp.fresh_ hk7 (by omega)
      (conv => whnf)
      refine VCmp.mk (fun h => absurd h h0) (fun _ => ?_)
      (conv => whnf)
      refine VLoads.blk hb rfl ?_
      (conv => whnf)
      (refine VReq.mk ⟨rfl, (fun u hu => List.all_eq_true.mp (show List.all _ (fun u => u.oneCell') = true by rfl) u hu)⟩ ?_; (conv => whnf))
      refine VStore.all hr rfl ?_
      intro w8 hr8 hk8 hk8_sz
      have kp := kp.fresh_ hk8 (Nat.le_refl _)
      (conv => whnf)
      refine VLoads.blk hr8 rfl ?_
      (conv => whnf)
      exact ⟨SnV.mk (ks := []) (hsn) rfl (Sl.nil) (Nat.le_refl _) (fun a ha => by cases ha), kp⟩
    have h0 : (decodeP l).2 = 0 := by omega
    refine VCmp.mk (fun _ => ?_) (fun h => absurd h0 h)
    (conv => whnf)
    refine VCmp.mk (fun _ => ?_) (fun h => absurd (by omega) h)
    (conv => whnf)
    refine VLoad.by_ ((hb6).cell 0) ?_; (conv => whnf)
    refine VCmp.mk (fun h1 => ?_) (fun h1 => ?_) <;> (conv => whnf)
    rotate_left 1
    · skip
      have hsn : snP p l = ⟨p, (decodeP l).1.code, [], (n : Nat), false⟩ := by
        refine Sn.ext_ rfl ?_ ?_ (by show ((l.length : Nat) : Int) = n; rw [hl]) ?_
        · show (if _ then _ else _) = _
          rw [if_pos (by first | exact .inl (by simp [nego]; omega) | exact .inr (by omega)), if_pos h0]
        · show kindsP p l = []
          unfold kindsP
          rw [if_neg (by first | exact (fun h => by have := h.2.2.1; have := h.2.2.2; omega) | exact (fun h => by have := h.1; simp [nego] at this; omega))]
        · show (decide (p = 253) && _) = _
          rw [decide_eq_false (by omega)]; rfl
      refine VLoads.blk hb rfl ?_
      (conv => whnf)
      (refine VReq.mk ⟨rfl, (fun u hu => List.all_eq_true.mp (show List.all _ (fun u => u.oneCell') = true by rfl) u hu)⟩ ?_; (conv => whnf))
      refine VStore.all hr rfl ?_
      intro w8 hr8 hk8 hk8_sz
      have kp := kp.fresh_ hk8 (Nat.le_refl _)
      (conv => whnf)
      refine VLoads.blk hr8 rfl ?_
      (conv => whnf)
      exact ⟨SnV.mk (ks := []) (hsn) rfl (Sl.nil) (Nat.le_refl _) (fun a ha => by cases ha), kp⟩
    refine VLoad.by_ ((hb6).cell 0) ?_; (conv => whnf)
    refine VCmp.mk (fun h2 => ?_) (fun h2 => ?_) <;> (conv => whnf)
    rotate_left 1
    · skip
      have hsn : snP p l = ⟨p, (decodeP l).1.code, [], (n : Nat), false⟩ := by
        refine Sn.ext_ rfl ?_ ?_ (by show ((l.length : Nat) : Int) = n; rw [hl]) ?_
        · show (if _ then _ else _) = _
          rw [if_pos (by first | exact .inl (by simp [nego]; omega) | exact .inr (by omega)), if_pos h0]
        · show kindsP p l = []
          unfold kindsP
          rw [if_neg (by first | exact (fun h => by have := h.2.2.1; have := h.2.2.2; omega) | exact (fun h => by have := h.1; simp [nego] at this; omega))]
        · show (decide (p = 253) && _) = _
          rw [decide_eq_false (by omega)]; rfl
      refine VLoads.blk hb rfl ?_
      (conv => whnf)
      (refine VReq.mk ⟨rfl, (fun u hu => List.all_eq_true.mp (show List.all _ (fun u => u.oneCell') = true by rfl) u hu)⟩ ?_; (conv => whnf))
      refine VStore.all hr rfl ?_
      intro w8 hr8 hk8 hk8_sz
      have kp := kp.fresh_ hk8 (Nat.le_refl _)
      (conv => whnf)
      refine VLoads.blk hr8 rfl ?_
      (conv => whnf)
      exact ⟨SnV.mk (ks := []) (hsn) rfl (Sl.nil) (Nat.le_refl _) (fun a ha => by cases ha), kp⟩
    refine VLoad.by_ ((hb6).cell 2) ?_; (conv => whnf)
    obtain ⟨A4', n4', c4', e4, hs4, hc4, hb4⟩ := hx
    cases e4
    have hdl := decodeP_len l
    have hl4 : (decodeP l).1.data.length = n4 := by simpa using hs4.len
    refine (Pk.refSplit_ok w7 hs4 (by omega) hc4).mono ?_
    rintro v w8 ⟨⟨A9, n9, c9, ce9, rfl, hs9, hp9, hc9, hb9⟩, hk9⟩
    have hk9_sz := hk9.size
    have kp := kp.keepNo hk9; have hr := hr.keepNo hk9; have hb := hb.keepNo hk9
    have hspl := splitP_len (decodeP l).1.data
    have hn9 := hp9.len hs9
    (conv => whnf)
    have kds : ∀ k x, (splitP (decodeP l).1.data).1[k]? = some x → (((splitP (decodeP l).1.data).1.take (k + 1)).map fun o => o.t) = (((splitP (decodeP l).1.data).1.take k).map fun o => o.t) ++ [x.t] := fun k x hx => by
      rw [List.take_add_one, hx]; simp
    refine VLoop.by_ tt_ok (S := Nat × Option Addr × Nat) (fun | (k, _, _) => [(4, .pointer (some ⟨w.heap.size, 0, none⟩)), (5, .pointer (some ⟨w1.heap.size, 0, none⟩)), (8, .slice A9 n9 c9), (10, .int .i64 k)])
      (fun | (k, A', c') => fun w' => k ≤ n9 ∧ Blk w' w1.heap.size TRs [iv p, iv (decodeP l).1.code, .slice A' k c', iv n, .bool false] ∧ Own w' w8.heap.size TInt 1 A' k c' ((((splitP (decodeP l).1.data).1.take k).map fun o => o.t).map iv) ∧ Keep (fun k => k = w1.heap.size) w8 w') (fun | (k, _, _) => n9 - k)
      (0, none, 0) ⟨rfl, rfl, rfl, rfl, trivial⟩ ⟨by omega, hb, Own.nil _ _ _ _, Keep.refl _ _⟩ ?_
    rintro ⟨k, A', c'⟩ wq ⟨hk, hb, hown, kq⟩
    have kp8 := kp
    have kp := kp.toNo kq (fun i e => by have e : i = w1.heap.size := e; omega)
    have hr := hr.keep kq (by omega)
    have kq_sz := kq.size
    (conv => whnf)
    refine VCmp.mk (fun h3 => ?_) (fun h3 => ?_) <;> (conv => whnf)
    rotate_left 1
    · obtain rfl : k = n9 := by omega
      rw [List.take_of_length_le (by omega)] at hown
      have hsn : snP p l = ⟨p, (decodeP l).1.code, (splitP (decodeP l).1.data).1.map (fun o => o.t), (n : Nat), false⟩ := by
        refine Sn.ext_ rfl ?_ ?_ (by show ((l.length : Nat) : Int) = n; rw [hl]) ?_
        · show (if _ then _ else _) = _
          rw [if_pos (.inl (by simp [nego]; omega)), if_pos h0]
        · show kindsP p l = _
          unfold kindsP
          rw [if_pos ⟨by simp [nego]; omega, h0, h1, h2⟩]
        · show (decide (p = 253) && _) = _
          rw [decide_eq_false (by omega)]; rfl
      refine VLoads.blk hb rfl ?_
      (conv => whnf)
      (refine VReq.mk ⟨rfl, (fun u hu => List.all_eq_true.mp (show List.all _ (fun u => u.oneCell') = true by rfl) u hu)⟩ ?_; (conv => whnf))
      refine VStore.all hr rfl ?_
      intro w8 hr8 hk8 hk8_sz
      have kp := kp.fresh_ hk8 (Nat.le_refl _)
      have ho9 := hown.keep hk8 (fun a ha e => by have := (hown.type_ne ha hr (by decide)); exact this e)
      (conv => whnf)
      refine VLoads.blk hr8 rfl ?_
      (conv => whnf)
      exact ⟨SnV.mk (ks := (splitP (decodeP l).1.data).1.map (fun o => o.t)) (hsn) (by rw [List.length_map]; exact hn9) (Sl.ofOwn ho9) (ho9.le) (fun a ha => ho9.ty ha), kp⟩
    obtain ⟨y, hy⟩ : ∃ y, (splitP (decodeP l).1.data).1[k]? = some y := ⟨_, List.getElem?_eq_getElem (by omega)⟩
    obtain ⟨b, o, A1, c1, hA, hkn, e0, e1, _⟩ := hp9.at_ hs9 hy
    have hbb : ¬ b = w1.heap.size := by have := hb9 _ hA; dsimp only at this; omega
    have e0 := kq.cell e0 hbb
    refine VDraw.by_ tt_ok rfl (.take 0 (.take 1 (.take 2 (.take 3 (.take 4 (.take 5 (.take 6 (.one 7 (.one 8 (.take 9 (.one 10 .done))))))))))) (by decide +kernel) (fun x => x.cell? ⟨w1.heap.size, 2, none⟩ = some (.slice A' k c') ∧ x.cell? ⟨b, o + k * 2, none⟩ = some (.int .i64 y.t)) (fun x h1 h2 h3 h4 => ⟨(Keep.ofHeap h1 h2 h3 h4).cell (hb.cell 2) id, (Keep.ofHeap h1 h2 h3 h4).cell e0 id⟩) (fun wb hdb kdb => ?_)
    have kp := kp.keepNo kdb; have hb := hb.keepNo kdb; have hown := hown.keepNo kdb; have kq := kq.keepNo kdb
    have e0 := kdb.cell e0 id
    (conv => whnf)
    refine VLoad.by_ (fun x hx => hx.1) ?_
    (conv => whnf)
    refine VIdx.mul k rfl (by omega) hA ?_
    (conv => whnf)
    refine VLoad.by_ (fun x hx => hx.2) ?_
    (conv => whnf)
    refine VFill.by_ rfl ?_; (conv => whnf)
    refine ⟨fun wc hbc hkc => ?_⟩; have hbc_lt := Blk.lt hbc; have hkc_sz := hkc.size; (conv => whnf)
    have kp := kp.keepNo hkc; have hb := hb.keepNo hkc; have hown := hown.keepNo hkc; have kq := kq.keepNo hkc
    have e0 := hkc.cell e0 id
    refine VOwe.same ⟨hb.cell 2, e0⟩ ?_
    (conv => whnf)
    refine appIv kq hown hbc rfl (by omega) ?_
    intro A2 c2 wd2 ho2 kq2 hkA
    have hb := hb.keep hkA (fun ⟨a, ha, e⟩ => hown.type_ne ha hb (by decide) e)
    have e0 := hkA.cell e0 (fun ⟨a, ha, e⟩ => by have := (hown.base_ ha).1; have e : a.block = b := e; have := hs9.lt (by omega) hA; dsimp only at this; omega)
    (conv => whnf)
    refine VOwe.same ⟨hb.cell 2, e0⟩ ?_
    (conv => whnf)
    refine VStore.one hb (Nat.le_of_ble_eq_true rfl) ?_
    intro we hb hke hke_sz
    have ho3 := ho2.keep hke (fun a ha e => by have e : a.block = w1.heap.size := e; have := (ho2.base_ ha).1; omega)
    have kq3 := kq2.trans hke
    (conv => whnf)
    refine VOwe.to (fun _ => True) (fun h => absurd h (by decide +kernel)) trivial ?_; (conv => whnf)
    refine VRes.i64 (by omega) ?_; (conv => whnf)
    exact ⟨(k + 1, A2, c2), ⟨rfl, rfl, rfl, rfl, trivial⟩, ⟨by omega, hb, by rw [kds k y hy]; exact ho3, kq3⟩, by dsimp only; omega⟩
  · skip
    have hsn : snP p l = ⟨p, 0, [], (n : Nat), false⟩ := by
      refine Sn.ext_ rfl ?_ ?_ (by show ((l.length : Nat) : Int) = n; rw [hl]) ?_
      · show (if _ then _ else _) = _
        rw [if_neg (fun h => by simp [nego] at h; omega)]
      · show kindsP p l = []
        unfold kindsP
        rw [if_neg (fun h => by have := h.1; simp [nego] at this; omega)]
      · show (decide (p = 253) && (decide (0 < l.length) && decide ((l.getD 0 0).toNat &&& 16 ≠ 0))) = _
        rw [decide_eq_false (show ¬ p = 253 by omega)]; rfl
    refine VLoads.blk hb rfl ?_
    (conv => whnf)
    (refine VReq.mk ⟨rfl, (fun u hu => List.all_eq_true.mp (show List.all _ (fun u => u.oneCell') = true by rfl) u hu)⟩ ?_; (conv => whnf))
    refine VStore.all hr rfl ?_
    intro w8 hr8 hk8 hk8_sz
    have kp := kp.fresh_ hk8 (Nat.le_refl _)
    (conv => whnf)
    refine VLoads.blk hr8 rfl ?_
    (conv => whnf)
    exact ⟨SnV.mk (ks := []) (hsn) rfl (Sl.nil) (Nat.le_refl _) (fun a ha => by cases ha), kp⟩
end Go.Proofs.YtpofkhjkdkkajaaDoor
