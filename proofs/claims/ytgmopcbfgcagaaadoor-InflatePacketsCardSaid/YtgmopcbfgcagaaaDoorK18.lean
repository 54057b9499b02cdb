/-
  Law 18: whatever packets come, with more that is added, or all forgotten. For every input.
-/
import Derived.Test.YtgmopcbfgcagaaaDoorK17
namespace Go.Proofs.YtgmopcbfgcagaaaDoor
open Go V Go.ChangeShapes Go.WideShapes Go.ChangeAt Go.RowKit

theorem VLoads.three {L : Addr → Value → Prop} {b o : Nat} {u v x : Value} {K : List Value → Prop} (h0 : L ⟨b, o, none⟩ u) (h1 : L ⟨b, o + 1, none⟩ v) (h2 : L ⟨b, o + 2, none⟩ x) (hK : K [u, v, x]) : VLoads L ⟨b, o, none⟩ 3 K := by
  refine ⟨[u, v, x], rfl, fun j y hj => ?_, hK⟩
  match j, hj with
  | 0, hj =>
    simp only [List.getElem?_cons_zero, Option.some.injEq] at hj
    subst hj; exact h0
  | 1, hj =>
    simp only [List.getElem?_cons_succ, List.getElem?_cons_zero, Option.some.injEq] at hj
    subst hj; rw [addr_add]; exact h1
  | 2, hj =>
    simp only [List.getElem?_cons_succ, List.getElem?_cons_zero, Option.some.injEq] at hj
    subst hj; rw [addr_add]; exact h2
  | j + 3, hj => simp at hj
theorem InrN.to {N N' : Nat → Prop} {w : World} {y : Nat} {hist : List UInt8} (h : InrN N w y hist) (hN : ∀ i, i < w.heap.size → N' i → N i) : InrN N' w y hist := by
  obtain ⟨H, c, g1, g2, g3, g4⟩ := h
  exact ⟨H, c, g1, g2, g3, fun a ha => ⟨(g4 a ha).1, fun hn => (g4 a ha).2 (hN _ (g4 a ha).1.lt hn)⟩⟩
theorem InrN.keepN {N S : Nat → Prop} {w w' : World} {y : Nat} {hist : List UInt8} (h : InrN N w y hist) (k : Keep S w w') (h1 : ¬ S y) (h2 : ∀ i, S i → N i) : InrN N w' y hist := by
  obtain ⟨H, c, g1, g2, g3, g4⟩ := h
  exact ⟨H, c, g1.keep k h1, g2.keep k (fun a ha hs => (g4 a ha).2 (h2 _ hs)), g3, fun a ha => ⟨(g4 a ha).1.keep k (fun hs => (g4 a ha).2 (h2 _ hs)), (g4 a ha).2⟩⟩
theorem InrN.ty {N : Nat → Prop} {w : World} {y : Nat} {hist : List UInt8} (h : InrN N w y hist) : Ty w y TIn := by
  obtain ⟨H, c, g1, _⟩ := h
  exact g1.ty
theorem win_len (l : List UInt8) : (win l).length = min l.length 32768 := by
  unfold win
  rw [List.length_drop]; omega
theorem win_of_win (l : List UInt8) : win (win l) = win l := by
  have := win_win l []
  rwa [List.append_nil, List.append_nil] at this
theorem start_win (b hist : List UInt8) (most : Nat) : startS b (win hist) most = startS b hist most := by
  have e : ∀ h : List UInt8, startS b h most = ⟨b, 0, win h, (win h).length, most⟩ := fun h => rfl
  rw [e, e, win_of_win]
/-- Bytes that are read do not lie in a block that has none. -/
theorem slApart {w : World} {A : Option Addr} {n : Nat} {l : List UInt8} (hs : Sl w 1 A n (l.map vb)) {a : Addr} (ha : A = some a) (h0 : 0 < n) {t : TypeId} {cs : List Value} (hb : Blk w a.block t cs) (hc : ∀ (o : Nat) (v : UInt8), cs[o]? = some (vb v) → False) : False := by
  obtain ⟨b, o, hA, hcell⟩ := hs.at_ h0
  have hl : l.length = n := by simpa using hs.len
  rw [hA] at ha
  cases ha
  have h2 := hcell 0 (vb (l.getD 0 0)) (by rw [List.getElem?_map, List.getElem?_eq_getElem (by omega), List.getD_eq_getElem?_getD, List.getElem?_eq_getElem (by omega)]; rfl)
  have hb : Blk w b t cs := hb
  rw [hb.cell, Nat.add_zero] at h2
  exact hc _ _ h2
theorem sl_eq {w : World} {A : Option Addr} {n m : Nat} {l : List UInt8} (h : Sl w 1 A n (l.map vb)) (e : n = m) : Sl w 1 A m (l.map vb) := e ▸ h

set_option maxRecDepth 100000 in
set_option maxHeartbeats 8000000 in
theorem inflatePackets_ok (W : World) (hg : EtOk W) (A : Option Addr) (n c : Nat) (ds : List Ded) (hd : DedV W A n ds) (hnc : n ≤ c) (_ : c ≤ 9223372036854775807) :
    VC Tryd.prog 7 [.slice A n c] W (fun v w' => v = .bool true ∧ Keep No W w') := by
  have hdl := hd.1
  refine VC.of tt_ok Tryd.func7 rfl (by decide +kernel) (Nat.le_of_ble_eq_true rfl) ?_; (conv => whnf)
  refine (awake18_ok W hg).mono ?_
  rintro v w1 ⟨rfl, kp1⟩
  (conv => whnf)
  refine VCmp.mk (fun h => ?_) (fun h => ?_) <;> (conv => whnf)
  · exact ⟨rfl, kp1⟩
  have h20 : n ≤ 20 := by omega
  have hd1 := hd.keepNo kp1
  refine VLoop.by_ tt_ok (S := Nat) (fun k => [(0, .slice A n c), (3, .int .i64 k)])
    (fun k w' => k ≤ n ∧ w' = w1 ∧ ∀ i d, i < k → ds[i]? = some d → d.b.length ≤ 400 ∧ 0 ≤ d.most ∧ d.most ≤ 3000) (fun k => n - k)
    0 ⟨rfl, rfl, trivial⟩ ⟨by omega, rfl, fun i d h => absurd h (by omega)⟩ ?_
  rintro k w' ⟨hk, rfl, hall⟩
  (conv => whnf)
  refine VCmp.mk (fun h => ?_) (fun h => ?_) <;> (conv => whnf)
  · obtain ⟨d, hdk⟩ : ∃ d, ds[k]? = some d := ⟨_, List.getElem?_eq_getElem (by omega)⟩
    obtain ⟨b, o, hA, e0, e1, A2, c2, e2, e3⟩ := hd1.2 k d hdk
    refine VIdx.mul k rfl (by omega) hA ?_
    (conv => whnf)
    refine VLoad.by_ e2 ?_
    (conv => whnf)
    refine VCmp.mk (fun h2 => ?_) (fun h2 => ?_) <;> (conv => whnf)
    · exact ⟨rfl, kp1⟩
    refine VIdx.mul k rfl (by omega) hA ?_
    (conv => whnf)
    refine VLoad.by_ e1 ?_
    (conv => whnf)
    refine VCmp.mk (fun h3 => ?_) (fun h3 => ?_) <;> (conv => whnf)
    · exact ⟨rfl, kp1⟩
    refine VIdx.mul k rfl (by omega) hA ?_
    (conv => whnf)
    refine VLoad.by_ e1 ?_
    (conv => whnf)
    refine VCmp.mk (fun h4 => ?_) (fun h4 => ?_) <;> (conv => whnf)
    · exact ⟨rfl, kp1⟩
    refine VRes.i64 (by omega) ?_; (conv => whnf)
    refine ⟨k + 1, ⟨rfl, rfl, trivial⟩, ⟨by omega, rfl, fun i d' hi hdi => ?_⟩, by omega⟩
    rcases Nat.lt_or_ge i k with g | g
    · exact hall i d' g hdi
    · obtain rfl : i = k := by omega
      rw [hdk] at hdi
      cases hdi
      exact ⟨by omega, by omega, by omega⟩
  obtain rfl : k = n := by omega
  refine (inewN_ok (N := ownS none) w').mono ?_
  rintro v w2 ⟨⟨y, rfl, hi2, hy⟩, k2⟩
  have kp2 := kp1.trans k2
  (conv => whnf)
  refine VFill.by_ rfl ?_; (conv => whnf)
  refine ⟨fun w3 hm3 k3 => ?_⟩
  have kp3 := kp2.trans k3
  have hi3 := hi2.keepNo k3
  have kp1_sz := kp1.size
  have k2_sz := k2.size
  obtain ⟨m, hm⟩ : ∃ m, m = w2.heap.size := ⟨_, rfl⟩
  rw [← hm] at hm3
  rw [← hm]
  have hmW : W.heap.size ≤ m := by omega
  have hyW : W.heap.size ≤ y := by omega
  have hR3 : RinV w3 W.heap.size m none 0 [] := ⟨hm3, Own.nil _ _ _ _⟩
  clear hi2 hm3 hm
  (conv => whnf)
  refine VLoop.by_ tt_ok (S := Nat × Option Addr × Nat × List UInt8) (fun | (q, H, ch, hp) => [(0, .slice A k c), (4, .pointer (some ⟨y, 0, none⟩)), (5, .pointer (some ⟨m, 0, none⟩)), (6, .int .i64 q)])
    (fun | (q, H, ch, hp) => fun w' => q ≤ k ∧ hp.length ≤ 32768 + 400 * q ∧ RinV w' W.heap.size m H ch hp ∧ InrN (ownS H) w' y (win hp) ∧ Keep No W w') (fun | (q, _, _, _) => k - q)
    (0, none, 0, []) ⟨rfl, rfl, rfl, rfl, trivial⟩ ⟨by omega, by simp, hR3, hi3, kp3⟩ ?_
  clear hR3 hi3 k2 k3 kp2 kp3
  obtain ⟨nn, hnn⟩ : ∃ nn, nn = k := ⟨_, rfl⟩
  rw [← hnn] at hk hnc hall hd hdl hd1 h20 ⊢
  clear h hnn
  rintro ⟨k, H, ch, hp⟩ w4 ⟨hkn, hlen, hR, hI, kp⟩
  (conv => whnf)
  refine VCmp.mk (fun h => ?_) (fun h => ?_) <;> (conv => whnf)
  rotate_left 1
  · exact ⟨rfl, kp⟩
  obtain ⟨d, hdk⟩ : ∃ d, ds[k]? = some d := ⟨_, List.getElem?_eq_getElem (by omega)⟩
  obtain ⟨db4, dm0, dm1⟩ := hall k d (by omega) hdk
  obtain ⟨b, o, hA, e0, e1, A2, c2, e2, e3⟩ := (hd.keepNo kp).2 k d hdk
  obtain ⟨act, dmost, bs⟩ := d
  dsimp only at db4 dm0 dm1 e0 e1 e2 e3
  obtain ⟨mo, rfl⟩ : ∃ mo : Nat, dmost = (mo : Int) := ⟨dmost.toNat, by omega⟩
  refine VIdx.mul k rfl (by omega) hA ?_
  (conv => whnf)
  refine VLoads.three e0 e1 e2 ?_
  (conv => whnf)
  refine ⟨fun w5 hq5 k5 => ?_⟩
  have hq_lt := Blk.lt hq5
  (conv => whnf)
  (refine VReq.mk ⟨rfl, (fun u hu => List.all_eq_true.mp (show List.all _ (fun u => u.oneCell') = true by rfl) u hu)⟩ ?_; (conv => whnf))
  refine VStore.all hq5 rfl ?_
  intro w6 hq6 k6 k6_sz
  have k6 := Keep.fresh_ k5 k6 (Nat.le_refl _)
  obtain ⟨q, hq⟩ : ∃ q, q = w4.heap.size := ⟨_, rfl⟩
  rw [← hq] at hq6
  rw [← hq]
  have kp6 := kp.trans k6
  have hR6 := hR.keepNo k6
  have hI6 := hI.keepNo k6
  have he6 := e3.keepNo k6
  have hnF : ∀ i, ownS H i → i < w6.heap.size := fun i ⟨a, ha, e⟩ => by rw [← e]; exact (hR6.2.ty ha).lt
  have hqW : W.heap.size ≤ q := by have := kp.size; omega
  have hym : y ≠ m := hI6.ty.ne hR6.1.ty (by decide)
  have hHy : ∀ i, ownS H i → i ≠ y := fun i ⟨a, ha, e⟩ => by rw [← e]; exact (hR6.2.ty ha).ne hI6.ty (by decide)
  clear hq5 hR hI e0 e1 e2 e3 hq hq_lt
  (conv => whnf)
  refine VLoad.by_ (hq6.cell 0) ?_
  (conv => whnf)
  refine VCmp.mk (fun g1 => ?_) (fun g1 => ?_) <;> (conv => whnf)
  · refine VLoad.by_ (hq6.cell 2) ?_
    (conv => whnf)
    refine VLoad.by_ (hq6.cell 1) ?_
    (conv => whnf)
    have hP := packetN_ok w6 hnF (hg.keepNo kp6) hI6 (by rw [win_len]; omega) (c := c2) he6 (by omega) (most := mo) (by omega)
    rw [start_win] at hP
    obtain ⟨F, hF⟩ : ∃ F, F = packK (8 * (tailB bs).length + 1) (startS (tailB bs) hp mo) := ⟨_, rfl⟩
    rw [← hF] at hP
    refine hP.mono ?_
    rintro v w7 ⟨hv, k7⟩
    have kp7 := kp6.toNo k7 (fun i e => by subst e; exact hyW)
    have hR7 := hR6.keep k7 hym.symm hHy
    have hq7 := hq6.keep k7 (fun e => hI6.ty.ne hq6.ty (by decide) e.symm)
    have hnF7 : ∀ i, ownS H i → i < w7.heap.size := fun i hi => Nat.lt_of_lt_of_le (hnF i hi) k7.size
    have he7 := (hd.keepNo kp7).2 k _ hdk
    obtain ⟨_, _, _, _, _, A3, c3, e4, e5⟩ := he7
    have he7 : Sl w7 1 A2 bs.length (bs.map vb) := he6.keepP k7 (fun a ha h0 e => by
      subst e
      obtain ⟨_, _, g1, _⟩ := hI6
      exact slApart he6 ha h0 g1 (by intro o v h; match o, h with
                                    | 0, h => cases h
                                    | 1, h => cases h
                                    | _ + 2, h => cases h))
    have hPR := rpacket_ok w7 hR7 (by omega) (c := c2) he7 (by omega) (most := mo) (by omega)
    rw [← hF] at hPR
    cases F with
    | error e =>
      obtain ⟨⟨rfl, hne⟩, hI7⟩ := hv
      (conv => whnf)
      refine VLoad.by_ (hq7.cell 2) ?_
      (conv => whnf)
      refine VLoad.by_ (hq7.cell 1) ?_
      (conv => whnf)
      refine hPR.mono ?_
      rintro v w8 ⟨hv8, k8⟩
      obtain ⟨rfl, _, hR8⟩ := hv8.bad e rfl
      have kp8 := kp7.toNo k8 (fun i e => by subst e; exact hmW)
      have hI8 := hI7.other hR7.1 (by decide) (by decide) k8
      (conv => whnf)
      refine VCmp.mk (fun h => absurd rfl h) (fun _ => ?_); (conv => whnf)
      refine (same_ok w8 (l := []) (r := []) Sl.nil Sl.nil (by omega)).mono ?_
      rintro v w9 ⟨rfl, k9⟩
      rw [decide_eq_true rfl]
      (conv => whnf)
      refine VDraw.by_ tt_ok rfl (.take 0 (.take 2 (.take 3 (.take 4 (.take 5 (.take 6 (.take 7 (.one 1 (.take 8 .done))))))))) (by decide +kernel) _ (fun x h1 h2 h3 h4 => Keep.ofHeap h1 h2 h3 h4) (fun wd hd kd => ?_)
      (conv => whnf)
      refine VLoad.keep ((hR8.keepNo k9).1.cell 0) ?_
      (conv => whnf)
      have hmn : (if (32768 : Int) < ((hp).length : Int) then (32768 : Int) else ((hp).length : Int)) = ((win (hp)).length : Int) := by rw [win_len (hp)]; split <;> omega
      refine VRes.to (congrArg (Value.int .i64) hmn) ?_
      (conv => whnf)
      refine (ilenN_ok wd ((hI8.keepNo k9).keepNo kd)).mono ?_
      rintro v wz ⟨rfl, rfl⟩
      (conv => whnf)
      refine VOwe.same kd ?_
      (conv => whnf)
      refine VCmp.mk (fun h => absurd rfl h) (fun _ => ?_); (conv => whnf)
      refine VRes.i64 (by omega) ?_; (conv => whnf)
      exact ⟨(k + 1, H, ch, hp), ⟨rfl, rfl, rfl, rfl, trivial⟩, ⟨by omega, by omega, (hR8.keepNo k9).keepNo kd, (hI8.keepNo k9).keepNo kd, (kp8.trans k9).trans kd⟩, by dsimp only; omega⟩
    | ok s' =>
      have hv : (∃ A' c', v = .tuple #[.slice A' (s'.all.drop s'.from_).length c', .int .i64 0] ∧ Sl w7 1 A' (s'.all.drop s'.from_).length ((s'.all.drop s'.from_).map vb)) ∧ InrN (ownS H) w7 y (win (win hp ++ s'.all.drop s'.from_)) := hv
      obtain ⟨⟨A8, c8, rfl, so8⟩, hI7⟩ := hv
      have hTl : (tailB bs).length = bs.length + 4 := by unfold tailB; rw [List.length_append]; rfl
      have hwl := win_len hp
      have hf0 : Fine (startS (tailB bs) hp mo) := by
        unfold Fine
        rw [start_all, start_from]
        exact ⟨show (tailB bs).length ≤ _ by omega, Nat.zero_le _, Nat.le_refl _, Nat.le_add_right _ _, show (win hp).length + mo ≤ _ by omega⟩
      obtain ⟨⟨t, ht⟩, hfr, hff⟩ := packK_pre _ _ _ hf0 hF.symm
      rw [start_all] at ht
      rw [start_from] at hfr
      have hdr : s'.all.drop s'.from_ = t := by rw [ht, hfr, List.drop_left]
      have hta : win hp ++ s'.all.drop s'.from_ = s'.all := by rw [hdr, ht]
      rw [hta] at hI7
      obtain ⟨_, _, z3, z4, z5⟩ := hff
      (conv => whnf)
      refine VLoad.by_ (hq7.cell 2) ?_
      (conv => whnf)
      refine VLoad.by_ (hq7.cell 1) ?_
      (conv => whnf)
      refine hPR.mono ?_
      rintro v w8 ⟨hv8, k8⟩
      obtain ⟨⟨A9, c9, rfl, so9⟩, H', ch', hR8⟩ := hv8.ok s' rfl
      have kp8 := kp7.toNo k8 (fun i e => by subst e; exact hmW)
      have hI8 : InrN (ownS H') w8 y (win s'.all) := by
        refine InrN.other (hI7.to (fun i hi ⟨a, ha, e⟩ => ?_)) hR7.1 (by decide) (by decide) k8
        have := (hR8.2.base_ ha).1
        omega
      have hR8 : RinV w8 W.heap.size m H' ch' (win s'.all) := ⟨hR8.1, hR8.2.mono kp7.size⟩
      have so8 := so8.keepP k8 (fun a ha h0 e => by
        subst e
        exact slApart so8 ha h0 hR7.1 (by intro o v h; match o, h with
                                      | 0, h => cases h
                                      | _ + 1, h => cases h))
      (conv => whnf)
      refine VCmp.mk (fun h => absurd rfl h) (fun _ => ?_); (conv => whnf)
      refine (same_ok w8 so8 so9 (by rw [List.length_drop]; omega)).mono ?_
      rintro v w9 ⟨rfl, k9⟩
      rw [decide_eq_true rfl]
      rw [← win_of_win s'.all] at hI8
      (conv => whnf)
      refine VDraw.by_ tt_ok rfl (.take 0 (.take 2 (.take 3 (.take 4 (.take 5 (.take 6 (.take 7 (.one 1 (.take 8 .done))))))))) (by decide +kernel) _ (fun x h1 h2 h3 h4 => Keep.ofHeap h1 h2 h3 h4) (fun wd hd kd => ?_)
      (conv => whnf)
      refine VLoad.keep ((hR8.keepNo k9).1.cell 0) ?_
      (conv => whnf)
      have hmn : (if (32768 : Int) < ((win s'.all).length : Int) then (32768 : Int) else ((win s'.all).length : Int)) = ((win (win s'.all)).length : Int) := by rw [win_len (win s'.all)]; split <;> omega
      refine VRes.to (congrArg (Value.int .i64) hmn) ?_
      (conv => whnf)
      refine (ilenN_ok wd ((hI8.keepNo k9).keepNo kd)).mono ?_
      rintro v wz ⟨rfl, rfl⟩
      (conv => whnf)
      refine VOwe.same kd ?_
      (conv => whnf)
      refine VCmp.mk (fun h => absurd rfl h) (fun _ => ?_); (conv => whnf)
      refine VRes.i64 (by omega) ?_; (conv => whnf)
      exact ⟨(k + 1, H', ch', win s'.all), ⟨rfl, rfl, rfl, rfl, trivial⟩, ⟨by omega, by rw [win_len]; omega, (hR8.keepNo k9).keepNo kd, (hI8.keepNo k9).keepNo kd, (kp8.trans k9).trans kd⟩, by dsimp only; omega⟩
  refine VLoad.by_ (hq6.cell 0) ?_
  (conv => whnf)
  refine VCmp.mk (fun g2 => ?_) (fun g2 => ?_) <;> (conv => whnf)
  · refine VLoad.by_ (hq6.cell 2) ?_
    (conv => whnf)
    refine (iaddN_ok w6 hnF hI6 he6 (by omega) (by rw [win_len]; omega)).mono ?_
    rintro v w7 ⟨⟨rfl, hI7⟩, k7⟩
    rw [win_win] at hI7
    have kp7 := kp6.toNo k7 (fun i e => by subst e; exact hyW)
    have hR7 := hR6.keep k7 hym.symm hHy
    have hq7 := hq6.keep k7 (fun e => hI6.ty.ne hq6.ty (by decide) e.symm)
    have he7 : Sl w7 1 A2 bs.length (bs.map vb) := he6.keepP k7 (fun a ha h0 e => by
      subst e
      obtain ⟨_, _, g1, _⟩ := hI6
      exact slApart he6 ha h0 g1 (by intro o v h; match o, h with
                                    | 0, h => cases h
                                    | 1, h => cases h
                                    | _ + 2, h => cases h))
    (conv => whnf)
    refine VDraw.by_ tt_ok rfl (.take 0 (.take 1 (.take 2 (.take 3 (.take 4 (.take 5 (.take 6 (.one 7 (.take 8 (.take 9 (.one 10 .done))))))))))) (by decide +kernel) _ (fun x h1 h2 h3 h4 => Keep.ofHeap h1 h2 h3 h4) (fun wd hd kd => ?_)
    (conv => whnf)
    refine VLoad.keep (hR7.1.cell 0) ?_
    (conv => whnf)
    refine VLoad.keep (hq7.cell 2) ?_
    (conv => whnf)
    have hR8 := hR7.keepNo kd
    have kp8 := kp7.trans kd
    refine VApp.own tt_ok (it := ty22) (ei := ty5) rfl rfl rfl (size := 1) rfl rfl (by omega) hR8.2 (he7.keepNo kd) (one8 bs) (by show (hp.length + bs.length) * 1 ≤ _; omega) (by omega) kp8.size ?_
    intro H' ch' w8 ho8 k8 hat
    have kp9 : Keep No W w8 := kp8.own hR8.2 k8
    have hm8 := hR8.1.keep k8 (fun ⟨a, ha, e⟩ => (hR8.2.ty ha).ne hR8.1.ty (by decide) e)
    have hI8 : InrN (fun i => ownS H i ∨ ownS H' i) wd y (win (hp ++ bs)) := (hI7.keepNo kd).to (fun i hi hh => by
      rcases hh with h | ⟨a, ha, e⟩
      · exact h
      · rcases hat a ha with ⟨a0, h0, e0⟩ | e0
        · exact ⟨a0, h0, by rw [← e0, e]⟩
        · omega)
    have hI9 := hI8.keepN k8 (fun h => hHy _ h rfl) (fun i h => .inl h)
    have hI9 : InrN (ownS H') w8 y (win (hp ++ bs)) := hI9.to (fun i _ h => .inr h)
    rw [← List.map_append] at ho8
    have hlb : hp.length + bs.length = (hp ++ bs).length := by rw [List.length_append]
    rw [hlb] at ho8
    rw [hlb]
    (conv => whnf)
    refine VOwe.to (fun _ => True) (fun h => absurd h (by decide +kernel)) trivial ?_; (conv => whnf)
    refine VStore.one hm8 (by simp) ?_
    intro w9 hm9 k9 _
    have hm9 : Blk w9 m TRi [.slice H' (hp ++ bs).length ch'] := hm9
    have kp10 := kp9.fresh_ k9 hmW
    have hI10 := hI9.other hm8 (by decide) (by decide) k9
    have hR10 : RinV w9 W.heap.size m H' ch' (hp ++ bs) := ⟨hm9, ho8.keep k9 (fun a ha e => (ho8.ty ha).ne hm8.ty (by decide) e)⟩
    clear kd
    (conv => whnf)
    refine VOwe.to (fun _ => True) (fun h => absurd h (by decide +kernel)) trivial ?_; (conv => whnf)
    refine VDraw.by_ tt_ok rfl (.take 0 (.take 2 (.take 3 (.take 4 (.take 5 (.take 6 (.take 7 (.one 1 (.take 8 .done))))))))) (by decide +kernel) _ (fun x h1 h2 h3 h4 => Keep.ofHeap h1 h2 h3 h4) (fun wd hd kd => ?_)
    (conv => whnf)
    refine VLoad.keep (hR10.1.cell 0) ?_
    (conv => whnf)
    have hmn : (if (32768 : Int) < ((hp ++ bs).length : Int) then (32768 : Int) else ((hp ++ bs).length : Int)) = ((win (hp ++ bs)).length : Int) := by rw [win_len (hp ++ bs)]; split <;> omega
    refine VRes.to (congrArg (Value.int .i64) hmn) ?_
    (conv => whnf)
    refine (ilenN_ok wd (hI10.keepNo kd)).mono ?_
    rintro v wz ⟨rfl, rfl⟩
    (conv => whnf)
    refine VOwe.same kd ?_
    (conv => whnf)
    refine VCmp.mk (fun h => absurd rfl h) (fun _ => ?_); (conv => whnf)
    refine VRes.i64 (by omega) ?_; (conv => whnf)
    exact ⟨(k + 1, H', ch', hp ++ bs), ⟨rfl, rfl, rfl, rfl, trivial⟩, ⟨by omega, by rw [List.length_append]; omega, hR10.keepNo kd, hI10.keepNo kd, (kp10).trans kd⟩, by dsimp only; omega⟩
  · refine (ireset_ok w6 hI6).mono ?_
    rintro v w7 ⟨⟨rfl, hI7⟩, k7⟩
    have kp7 := kp6.toNo k7 (fun i e => by subst e; exact hyW)
    have hR7 := hR6.keep k7 hym.symm hHy
    (conv => whnf)
    refine VStore.one hR7.1 (by simp) ?_
    intro w8 hm8 k8 _
    have hm8 : Blk w8 m TRi [.slice none 0 0] := hm8
    have kp8 := kp7.fresh_ k8 hmW
    have hI8 : InrN (ownS none) w8 y (win []) := (hI7.to (fun i _ ⟨a, ha, _⟩ => by cases ha)).other hR7.1 (by decide) (by decide) k8
    have hR8 : RinV w8 W.heap.size m none 0 [] := ⟨hm8, Own.nil _ _ _ _⟩
    (conv => whnf)
    refine VDraw.by_ tt_ok rfl (.take 0 (.take 2 (.take 3 (.take 4 (.take 5 (.take 6 (.take 7 (.one 1 (.take 8 .done))))))))) (by decide +kernel) _ (fun x h1 h2 h3 h4 => Keep.ofHeap h1 h2 h3 h4) (fun wd hd kd => ?_)
    (conv => whnf)
    refine VLoad.keep (hR8.1.cell 0) ?_
    (conv => whnf)
    have hmn : (if (32768 : Int) < ((([] : List UInt8)).length : Int) then (32768 : Int) else ((([] : List UInt8)).length : Int)) = ((win (([] : List UInt8))).length : Int) := by rw [win_len (([] : List UInt8))]; split <;> omega
    refine VRes.to (congrArg (Value.int .i64) hmn) ?_
    (conv => whnf)
    refine (ilenN_ok wd (hI8.keepNo kd)).mono ?_
    rintro v wz ⟨rfl, rfl⟩
    (conv => whnf)
    refine VOwe.same kd ?_
    (conv => whnf)
    refine VCmp.mk (fun h => absurd rfl h) (fun _ => ?_); (conv => whnf)
    refine VRes.i64 (by omega) ?_; (conv => whnf)
    exact ⟨(k + 1, none, 0, ([] : List UInt8)), ⟨rfl, rfl, rfl, rfl, trivial⟩, ⟨by omega, by simp, hR8.keepNo kd, hI8.keepNo kd, (kp8).trans kd⟩, by dsimp only; omega⟩

/-! ### The statement -/
theorem inflatePackets_own : ownKnob Tryd.prog.godebug = none := by kernel_rfl
theorem inflatePackets_laid : laidOutB Tryd.prog = true := by kernel_rfl
set_option maxRecDepth 100000 in
theorem inflatePackets_lifted (os : Os) (started : os.Started) (H : Type) (enc : TypeId × Value → H) :
    ReturnsInHanded {} Tryd.checked os 7 .any (fun w args => (Rows.inflatePacketsSpec.pre enc Tryd.prog Tryd.f7 Rows.inflatePacketsRow.domain false w args ∧ laidMetH Tryd.prog laidL w) ∧ sizedMet enc Tryd.prog Tryd.f7 (OpenSpec.ofChange Rows.inflatePacketsSpec) false w args) (Rows.inflatePacketsSpec.post enc Tryd.prog Tryd.f7 false true false false) := by
  refine returnsInHanded_of_change_and (C := Tryd.checked) (X := fun w _ => laidMetH Tryd.prog laidL w) (fun _ _ _ hh h => h.of_heap hh) inflatePackets_own started (by kernel_rfl) Tryd.func7
    (ChangeSpec.witness_at (enc := enc) (C := Tryd.checked) (os := os) (X := fun w _ => laidMetH Tryd.prog laidL w) false (laidWorld os) #[.slice none 0 0] 8 (by first | rfl | exact laidWorld_os os) (by kernel_rfl) (by kernel_rfl) (by kernel_rfl) (by kernel_rfl) (by kernel_rfl) (laidWorld_met os _)) ?_
  intro W base args ds gs before hval0 hW hcnd _ hL _
  have hg := handle_of_laid hL
  have hval : ∀ (j : Nat) t v, Tryd.f7.params[j]? = some t → args[j]? = some v → Value.okWide Tryd.prog W .any base t v := hval0
  have hW' := hW
  obtain ⟨p, q, hA0, hV, rfl, hfz, hnd⟩ := hW
  have hA : DataW.TrodAll enc Tryd.prog W 0 (fun _ => true) true Tryd.f7.params.toList args.toList ds p := hA0
  rw [Tryd.params7] at hA hval
  obtain ⟨v0, vs0, d0, ds0, p0, q0, hargs, rfl, rfl, h0, r0⟩ := trodAll_cons hA
  obtain ⟨rfl, rfl, rfl⟩ := trodAll_nil r0
  obtain rfl : args = #[v0] := by cases args; simp_all
  obtain ⟨rfl, rfl⟩ := trodVars_none hV
  have k0 := h0
  have lt0 : ∀ x ∈ p0, x.block < W.heap.size := by obtain ⟨m, hm⟩ := k0; exact DataW.trod_lt m _ _ _ hm
  obtain ⟨aa0, la0, ca0, rfl⟩ := okWide_slice Tryd.underlying38 (hval 0 38 v0 rfl rfl)
  obtain ⟨fuel0, hf0⟩ := h0
  obtain ⟨A0, n0, c0, l0, e0, s0, nc0, cc0⟩ := open_deeds hf0
  cases e0
  clear hA0 hval0
  refine (VC.law (inflatePackets_ok W hg aa0 la0 ca0 l0 s0 nc0 cc0)).mono fun e W' ⟨he, bel⟩ => ?_
  subst he
  exact ⟨_, rfl, _, _, _, [], _, [], hW', trodAll_mk1 (shut_bool Tryd.underlying4 _), (trodAll_cons_mk (Below.trod inflatePackets_laid (by kernel_rfl) (of_decide_eq_true (by kernel_rfl)) k0 bel lt0) trodAll_mk0), rfl, bel.frame _, fun h => by cases h⟩

theorem inflatePackets_over : Rows.inflatePacketsRow.holds Tryd.pinned (OpenSpec.ofChange Rows.inflatePacketsSpec) :=
  OpenClaim.holds_of_wide 7 Tryd.f7 rfl rfl rfl rfl rfl rfl rfl ⟨rfl, rfl, rfl, rfl, rfl⟩ rfl rfl rfl rfl rfl (by kernel_rfl) Tryd.func7 (by kernel_rfl)
    (of_decide_eq_true (by kernel_rfl)) (by unfold Func.isWrapper; first | (rw [if_pos (by decide +kernel)]; kernel_rfl) | (rw [if_neg (by decide +kernel)]; exact ⟨rfl, rfl⟩))
    (fun os started H enc _ => inflatePackets_lifted os started H enc)


theorem inflatePackets_proved : Rows.InflatePacketsCardSaid :=
  Claim7.holds_tied_plain_at .later [] [.handle] true (true, "12487687b0f2a4e326227b334f4ab789487ca98c6e08befe4bc67b2096b1f006") true
    inflatePackets_over (fun _ h => by cases h) (by kernel_rfl) (fun _ h => by cases h) inflatePackets_row_tie rfl ⟨rfl, rfl⟩ (by kernel_rfl) rfl
    (fun f fn hf hfn => by
      obtain rfl : f = 7 := Option.some.inj ((show Tryd.prog.funcNamed "fairlead/fairleadlaw18.InflatePackets" = some 7 by kernel_rfl).symm.trans hf) |>.symm
      obtain rfl : fn = Tryd.f7 := (Option.some.inj (Tryd.func7.symm.trans hfn)).symm
      exact ⟨by kernel_rfl, fun j t ht => by
        rw [Tryd.params7] at ht
        exact (match j, ht with
      | 0, ht => by obtain rfl : 38 = t := (by simpa using ht); kernel_rfl
      | j + 1, ht => by simp at ht)⟩)
    (by kernel_rfl)
#print axioms inflatePackets_proved
end Go.Proofs.YtgmopcbfgcagaaaDoor
