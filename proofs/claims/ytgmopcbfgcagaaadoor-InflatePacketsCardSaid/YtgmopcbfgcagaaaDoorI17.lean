/-
  Package inflate: the codes of a dynamic block.
-/
import Derived.Test.YtgmopcbfgcagaaaDoorI16
namespace Go.Proofs.YtgmopcbfgcagaaaDoor
open Go V

theorem order_ok (w : World) : VC Tryd.prog 50 [] w (fun v w' => (∃ q, v = .slice (some ⟨q, 0, none⟩) 19 19 ∧ Blk w' q TId (ordN.map nv) ∧ w.heap.size ≤ q) ∧ Keep No w w') := by
  refine VC.of tt_ok Tryd.func50 rfl (by decide +kernel) (Nat.le_of_ble_eq_true rfl) ?_; (conv => whnf)
  refine VFill.by_ rfl ?_; (conv => whnf)
  refine ⟨fun w1 hb k1 => ?_⟩; have hb_lt := Blk.lt hb; have k1_sz := k1.size; (conv => whnf)
  exact ⟨⟨_, rfl, hb, Nat.le_refl _⟩, k1⟩

set_option maxRecDepth 100000 in
set_option maxHeartbeats 4000000 in
theorem codes_ok (w : World) {base x rb : Nat} {Ar : Option Addr} {cr : Nat} {A : Option Addr} {c : Nat} {s : IS} (h : InfV w base x rb Ar cr A c s) (hf : Fine s) :
    VC Tryd.prog 32 [.pointer (some ⟨x, 0, none⟩)] w
      (fun v w' => (match codesF s with | .error e => ∃ E, v = .tuple #[.pointer none, .pointer none, E] ∧ BadV w' E e | .ok (a, b, s') => ∃ t td, v = .tuple #[.pointer (some ⟨t, 0, none⟩), .pointer (some ⟨td, 0, none⟩), .nilIface] ∧ TblV w' t (cntK a a.length) (ordA a 15) ∧ TblV w' td (cntK b b.length) (ordA b 15) ∧ InfV w' base x rb Ar cr A c s') ∧ Keep (fun k => k = rb) w w') := by
  obtain ⟨F, hF⟩ : ∃ F, F = codesF s := ⟨_, rfl⟩
  rw [← hF]
  have hf0 := hf
  obtain ⟨f1, f2, f3, f4, f5⟩ := hf
  have noR : ∀ {w1 w2 : World}, Keep No w1 w2 → Keep (fun k => k = rb) w1 w2 := fun k => k.mono fun _ _ h => h.elim
  have hrd := h.2.1.1
  unfold codesF at hF
  refine VC.of tt_ok Tryd.func32 rfl (by decide +kernel) (Nat.le_of_ble_eq_true rfl) ?_; (conv => whnf)
  refine (heads_ok w h hf0).mono ?_
  rintro v w1 ⟨hv, k1⟩
  obtain ⟨H, hH⟩ : ∃ H, H = headsF s := ⟨_, rfl⟩
  rw [← hH] at hv hF
  cases H with
  | error e =>
    obtain ⟨p, q, r, E, rfl, hE⟩ := hv
    obtain ⟨eb, he⟩ := hE.form
    dsimp only at hF
    subst hF
    subst he
    (conv => whnf)
    refine ⟨fun w2 hb k2 => ?_⟩; have hb_lt := Blk.lt hb; have k2_sz := k2.size; (conv => whnf)
    (refine VReq.mk ⟨rfl, (fun u hu => List.all_eq_true.mp (show List.all _ (fun u => u.oneCell') = true by rfl) u hu)⟩ ?_; (conv => whnf))
    refine VStore.all hb rfl ?_
    intro w3 hb3 k3 _
    have hE2 := hE.keepNo k2
    have hE3 := BadV.other hE2 hb rfl k3
    have kp := keep_newer (k1.trans (noR k2)) k3 k1.size
    (conv => whnf)
    exact ⟨⟨_, rfl, hE3⟩, kp⟩
  | ok H =>
  obtain ⟨p, q, r⟩ := H
  obtain ⟨rfl, h1⟩ := hv
  dsimp only at hF
  have hpq : p < 289 ∧ 257 ≤ p ∧ q < 33 ∧ 1 ≤ q ∧ r < 20 ∧ 4 ≤ r ∧ s.at_ + 14 ≤ 8 * s.l.length := by
    unfold headsF at hH
    split at hH
    · cases hH
    · obtain ⟨rfl, h2⟩ := Prod.mk.inj (Except.ok.inj hH)
      obtain ⟨rfl, rfl⟩ := Prod.mk.inj h2
      have := hdN_lt s.l s.at_
      omega
  obtain ⟨p1, p2, q1, q2, r1, r2, hat⟩ := hpq
  (conv => whnf)
  refine ⟨fun w2 hb k2 => ?_⟩; have hb_lt := Blk.lt hb; have k2_sz := k2.size; (conv => whnf)
  (refine VReq.mk ⟨rfl, (fun u hu => List.all_eq_true.mp (show List.all _ (fun u => u.oneCell') = true by rfl) u hu)⟩ ?_; (conv => whnf))
  refine VStore.all hb rfl ?_
  intro w3 hb3 k3 _
  have h3 := (h1.keepNo k2).other hb (by decide) (by decide) (by decide) k3
  have kp3 := keep_newer (k1.trans (noR k2)) k3 k1.size
  obtain ⟨Q, hQ⟩ : ∃ Q, Q = w1.heap.size := ⟨_, rfl⟩
  rw [← hQ] at hb3
  rw [← hQ]
  have hQw : w.heap.size ≤ Q := by rw [hQ]; exact k1.size
  clear hb k2 k3 hQ
  (conv => whnf)
  refine VIdxA.one 0 rfl (by omega) rfl ?_
  (conv => whnf)
  refine VLoad.by_ (hb3.cell 0) ?_
  (conv => whnf)
  refine VCmp.mk (fun g1 => ?_) (fun g1 => ?_) <;> (conv => whnf)
  · rw [if_pos (by omega)] at hF
    subst hF
    refine (bad_ok w3 10 (by omega)).mono ?_
    rintro v w4 ⟨hE, k4⟩
    (conv => whnf)
    exact ⟨⟨_, rfl, hE⟩, kp3.trans (noR k4)⟩
  refine VIdxA.one 1 rfl (by omega) rfl ?_
  (conv => whnf)
  refine VLoad.by_ (hb3.cell 1) ?_
  (conv => whnf)
  refine VCmp.mk (fun g2 => ?_) (fun g2 => ?_) <;> (conv => whnf)
  · rw [if_pos (by omega)] at hF
    subst hF
    refine (bad_ok w3 10 (by omega)).mono ?_
    rintro v w4 ⟨hE, k4⟩
    (conv => whnf)
    exact ⟨⟨_, rfl, hE⟩, kp3.trans (noR k4)⟩
  rw [if_neg (by omega)] at hF
  refine VMake.row_ (n := 19) (z := nv 0) (bytes := 8) Tryd.underlying107 (by kernel_rfl) rfl (by omega) (by omega) ?_
  intro w4 hL k4
  have hL : Blk w4 w3.heap.size TId ((lensK s.l (s.at_ + 14) 0).map nv) := by rw [lensK, List.map_replicate]; exact hL
  obtain ⟨M, hM⟩ : ∃ M, M = w3.heap.size := ⟨_, rfl⟩
  rw [← hM] at hL
  rw [← hM]
  have hMw : w.heap.size ≤ M := by rw [hM]; exact kp3.size
  clear hM
  have hb4 := hb3.keepNo k4
  have h4 := h3.keepNo k4
  have kp4 := kp3.trans (noR k4)
  (conv => whnf)
  refine VDraw.by_ tt_ok rfl (.take 1 (.take 2 (.take 5 (.one 0 (.take 3 (.take 4 .done)))))) (by decide +kernel) _ (fun x h1 h2 h3 h4 => Keep.ofHeap h1 h2 h3 h4) (fun wd hd kd => ?_)
  have hb5 := hb4.keepNo kd
  (conv => whnf)
  refine VIdxA.one 2 rfl (by omega) rfl ?_
  (conv => whnf)
  refine VLoad.keep (hb4.cell 2) ?_
  (conv => whnf)
  refine (order_ok wd).mono ?_
  rintro v w5 ⟨⟨U, rfl, hU, hUw⟩, k5⟩
  have kdd := kd.trans k5
  (conv => whnf)
  refine VOwe.same kdd ?_
  (conv => whnf)
  refine VCut.by_ 0 r rfl rfl (by omega) (by omega) ?_
  intro A6 hA6
  have hsO : Sl w5 1 A6 (r - 0) (((ordN.take r).drop 0).map nv) := Sl.cutN (c := 19) (Sl.ofBlk (n := 19) (size := 1) hU rfl) (Nat.zero_le _) (by omega) (by omega) hA6
  rw [List.drop_zero, Nat.sub_zero] at hsO
  have kp5 := kp4.trans (noR kdd)
  have hL5 := (hL.keepNo kdd)
  have hb5 := hb4.keepNo kdd
  have h5 := h4.keepNo kdd
  (conv => whnf)
  (repeat' (first  | (refine VCmp.mk (fun h => ?_) (fun h => ?_) <;> first | (exfalso; omega) | (conv => whnf))  | (refine VRes.i64 (by omega) ?_; conv => whnf)  | (refine VReq.mk (by omega) ?_; conv => whnf)))
  refine VLoop.by_ tt_ok (S := Nat) (fun k => [(0, .pointer (some ⟨x, 0, none⟩)), (5, .pointer (some ⟨Q, 0, none⟩)), (7, .slice (some ⟨M, 0, none⟩) 19 19), (38, .slice A6 r 19), (39, .int .i64 r), (40, .int .i64 k)])
    (fun k w' => k ≤ r ∧ s.at_ + 14 + 3 * k ≤ 8 * s.l.length ∧ InfV w' base x rb Ar cr A c { s with at_ := s.at_ + 14 + 3 * k } ∧ Blk w' M TId ((lensK s.l (s.at_ + 14) k).map nv) ∧ Sl w' 1 A6 r ((ordN.take r).map nv) ∧ (∀ a, A6 = some a → a.block ≠ M ∧ a.block ≠ rb) ∧ Blk w' Q TA3 [nv p, nv q, nv r] ∧ Keep (fun k => k = rb) w w') (fun k => r - k)
    0 ⟨rfl, rfl, rfl, rfl, rfl, rfl, trivial⟩ ⟨by omega, by omega, h5, hL5, hsO, ?_, hb5, kp5⟩ ?_
  · intro a ha
    rw [hA6, if_neg (by omega)] at ha
    simp only [Option.map_some, addr_add, Option.some.injEq] at ha
    subst ha
    have hMl := Blk.lt hL
    have := kd.size
    exact ⟨by dsimp only; omega, fun e => hU.ne h5.2.1.1 (by decide) e⟩
  clear h5 hL5 hsO hb5 kp5 kdd
  rintro k w6 ⟨hk, hka, h6, hL6, hO6, hne6, hb6, kp6⟩
  have hMQ := hL6.ne hb6 (by decide)
  have hrd6 := h6.2.1.1
  have hMr := hL6.ne hrd6 (by decide)
  have hQr := hb6.ne hrd6 (by decide)
  (conv => whnf)
  refine VCmp.mk (fun g3 => ?_) (fun g3 => ?_) <;> (conv => whnf)
  · refine VIdx.nv hO6 k rfl (by omega) (fun b_ o_ hA_ hc_ => ?_)
    (conv => whnf)
    refine VLoad.by_ hc_ ?_
    (conv => whnf)
    have ho1 : (ordN.take r).getD k 0 = ordN.getD k 0 := by
      rw [List.getD_eq_getElem?_getD, List.getElem?_take_of_lt (by omega), ← List.getD_eq_getElem?_getD]
    have ho2 := ordN_lt (k := k) (by omega)
    rw [ho1]
    refine (iTake_ok w6 h6 f1 (by dsimp only; omega) (n := 3) (by omega)).mono ?_
    rintro v w7 ⟨hv, k7⟩
    dsimp only at hv
    have kp7 := kp6.trans k7
    by_cases g4 : s.at_ + 14 + 3 * k + 3 ≤ 8 * s.l.length
    · rw [if_pos g4] at hv
      obtain ⟨rfl, h7⟩ := hv
      have hL7 := hL6.keep k7 hMr
      have hb7 := hb6.keep k7 hQr
      have hO7 := hO6.keep k7 (fun a ha => (hne6 a ha).2)
      have hll := lensK_len s.l (s.at_ + 14) k
      (conv => whnf)
      refine VIdx.one (ordN.getD k 0) rfl (by omega) rfl ?_
      (conv => whnf)
      refine VStore.one hL7 (by rw [List.length_map, hll]; omega) ?_
      intro w8 hL8 k8 _
      rw [Nat.zero_add] at hL8
      have h8 := h7.other hL7 (by decide) (by decide) (by decide) k8
      have h8 : InfV w8 base x rb Ar cr A c { s with at_ := s.at_ + 14 + 3 * (k + 1) } := h8
      (conv => whnf)
      refine VRes.i64 (by omega) ?_; (conv => whnf)
      exact ⟨k + 1, ⟨rfl, rfl, rfl, rfl, rfl, rfl, trivial⟩, ⟨by omega, by omega, h8, by rw [lensK, List.map_set]; exact hL8, hO7.keep k8 (fun a ha => (hne6 a ha).1), hne6, hb7.keep k8 hMQ.symm, keep_newer kp7 k8 hMw⟩, by omega⟩
    · rw [if_neg g4] at hv
      rw [if_pos (by omega)] at hF
      obtain ⟨E, rfl, hE⟩ := hv
      obtain ⟨eb, he⟩ := hE.form
      subst hF
      subst he
      (conv => whnf)
      exact ⟨⟨_, rfl, hE⟩, kp7⟩
  obtain rfl : k = r := by omega
  rw [if_neg (by omega)] at hF
  have hll := lensK_len s.l (s.at_ + 14) k
  refine (tbNew_ok w6 (lens := lensK s.l (s.at_ + 14) k) (Sl.ofBlk (n := 19) (size := 1) hL6 (by rw [List.length_map, hll])) (by omega) (lensK_le _ _ _)).mono ?_
  rintro v w7 ⟨hv, k7⟩
  have kp7 := kp6.trans (noR k7)
  have hb7 := hb6.keepNo k7
  have h7 := h6.keepNo k7
  by_cases g4 : wholeB (cntK (lensK s.l (s.at_ + 14) k) 19) = true
  rotate_left 1
  · rw [if_neg g4] at hv
    rw [if_pos (by simpa using g4)] at hF
    subst hF
    subst hv
    (conv => whnf)
    refine VCmp.mk (fun _ => ?_) (fun h => absurd (by decide) h); (conv => whnf)
    refine (bad_ok w7 10 (by omega)).mono ?_
    rintro v w8 ⟨hE, k8⟩
    (conv => whnf)
    exact ⟨⟨_, rfl, hE⟩, kp7.trans (noR k8)⟩
  rw [if_pos g4] at hv
  rw [if_neg (by rw [g4]; decide)] at hF
  obtain ⟨t, rfl, ht⟩ := hv
  have hokt := tbOk_lens (lensK s.l (s.at_ + 14) k) (by omega)
  rw [hll] at hokt
  (conv => whnf)
  refine VCmp.mk (fun h => absurd rfl h) (fun _ => ?_); (conv => whnf)
  refine VIdxA.one 0 rfl (by omega) rfl ?_
  (conv => whnf)
  refine VLoad.by_ (hb7.cell 0) ?_
  (conv => whnf)
  refine VIdxA.one 1 rfl (by omega) rfl ?_
  (conv => whnf)
  refine VLoad.by_ (hb7.cell 1) ?_
  (conv => whnf)
  refine VRes.to (v' := .int .i64 ((p + q : Nat) : Int)) (by rw [wrap_i64 (by omega)]; exact congrArg _ (by omega)) ?_
  (conv => whnf)
  have hf7 : Fine { s with at_ := s.at_ + 14 + 3 * k } := ⟨f1, hka, f3, f4, f5⟩
  refine (row_ok w7 h7 hf7 ht hokt (want := p + q) (by omega)).mono ?_
  rintro v w8 ⟨hv, k8⟩
  have kp8 := kp7.trans k8
  obtain ⟨G, hG⟩ : ∃ G, G = rowF (cntK (lensK s.l (s.at_ + 14) k) 19) (ordA (lensK s.l (s.at_ + 14) k) 15) (p + q) (p + q + 1) [] { s with at_ := s.at_ + 14 + 3 * k } := ⟨_, rfl⟩
  rw [← hG] at hF hv
  cases G with
  | error e =>
    obtain ⟨E, rfl, hE⟩ := hv
    obtain ⟨eb, he⟩ := hE.form
    dsimp only at hF
    subst hF
    subst he
    (conv => whnf)
    exact ⟨⟨_, rfl, hE⟩, kp8⟩
  | ok G =>
  obtain ⟨row, s'⟩ := G
  obtain ⟨AR, cR, rfl, hoR, h8⟩ := hv
  dsimp only at hF
  have ho19 : ∀ x ∈ ordA (lensK s.l (s.at_ + 14) k) 15, x < 19 := fun x hx => by
    have := ordA_lt _ _ x hx
    rwa [hll] at this
  obtain ⟨z1, z2, z3, z4, z5, z6, z7, z8⟩ := rowF_fine ho19 _ _ _ hf7 (fun x hx => by cases hx) (by simp) hG.symm
  have hcR := hoR.le
  have hsR := Sl.ofOwn hoR
  have hb8 := hb7.keep k8 (hb7.ne h7.2.1.1 (by decide))
  (conv => whnf)
  refine VIdxA.one 0 rfl (by omega) rfl ?_
  (conv => whnf)
  refine VLoad.by_ (hb8.cell 0) ?_
  (conv => whnf)
  refine VCut.by_ 0 p rfl rfl (by omega) (by omega) ?_
  intro A9 hA9
  have hs9 := Sl.cutN hsR (l := 0) (h := p) (by omega) (by omega) hcR (A' := A9) hA9
  rw [List.drop_zero, Nat.sub_zero] at hs9
  rw [Nat.sub_zero]
  have hpl : (row.take p).length = p := by rw [List.length_take]; omega
  have hql : (row.drop p).length = q := by rw [List.length_drop]; omega
  (conv => whnf)
  refine (tbNew_ok w8 (lens := row.take p) hs9 (by omega) (fun x hx => z2 x (List.mem_of_mem_take hx))).mono ?_
  rintro v w9 ⟨hv, k9⟩
  have kp9 := kp8.trans (noR k9)
  have hb9 := hb8.keepNo k9
  have h9 := h8.keepNo k9
  have hsR9 := hsR.keepNo k9
  by_cases g5 : wholeB (cntK (row.take p) p) = true
  rotate_left 1
  · rw [if_neg g5] at hv
    rw [if_pos (by simpa using g5)] at hF
    subst hF
    subst hv
    (conv => whnf)
    refine VCmp.mk (fun _ => ?_) (fun h => absurd (by decide) h); (conv => whnf)
    refine (bad_ok w9 10 (by omega)).mono ?_
    rintro v w10 ⟨hE, k10⟩
    (conv => whnf)
    exact ⟨⟨_, rfl, hE⟩, kp9.trans (noR k10)⟩
  rw [if_pos g5] at hv
  rw [if_neg (by rw [g5]; decide)] at hF
  obtain ⟨t1, rfl, ht1⟩ := hv
  (conv => whnf)
  refine VCmp.mk (fun h => absurd rfl h) (fun _ => ?_); (conv => whnf)
  refine VIdx.nv hsR9 256 rfl (by omega) (fun b_ o_ hA_ hc_ => ?_)
  (conv => whnf)
  refine VLoad.by_ hc_ ?_
  (conv => whnf)
  have hr256 : row.getD 256 0 ≤ 15 := getD_le15 z2 256
  refine VCmp.mk (fun g6 => ?_) (fun g6 => ?_) <;> (conv => whnf)
  · rw [if_pos (by omega)] at hF
    subst hF
    refine (bad_ok w9 10 (by omega)).mono ?_
    rintro v w10 ⟨hE, k10⟩
    (conv => whnf)
    exact ⟨⟨_, rfl, hE⟩, kp9.trans (noR k10)⟩
  rw [if_neg (by omega)] at hF
  refine VIdxA.one 0 rfl (by omega) rfl ?_
  (conv => whnf)
  refine VLoad.by_ (hb9.cell 0) ?_
  (conv => whnf)
  refine VReq.mk hcR ?_
  refine VCut.by_ p row.length rfl rfl (by omega) hcR ?_
  intro A10 hA10
  have hs10 := Sl.cutN hsR9 (l := p) (h := row.length) (by omega) (Nat.le_refl _) hcR (A' := A10) hA10
  rw [List.take_length, show row.length - p = q from by omega] at hs10
  rw [show row.length - p = q from by omega]
  (conv => whnf)
  refine (tbNew_ok w9 (lens := row.drop p) hs10 (by omega) (fun x hx => z2 x (List.mem_of_mem_drop hx))).mono ?_
  rintro v w10 ⟨hv, k10⟩
  have kp10 := kp9.trans (noR k10)
  by_cases g7 : wholeB (cntK (row.drop p) q) = true
  rotate_left 1
  · rw [if_neg g7] at hv
    rw [if_pos (by simpa using g7)] at hF
    subst hF
    subst hv
    (conv => whnf)
    refine VCmp.mk (fun _ => ?_) (fun h => absurd (by decide) h); (conv => whnf)
    refine (bad_ok w10 10 (by omega)).mono ?_
    rintro v w11 ⟨hE, k11⟩
    (conv => whnf)
    exact ⟨⟨_, rfl, hE⟩, kp10.trans (noR k11)⟩
  rw [if_pos g7] at hv
  rw [if_neg (by rw [g7]; decide)] at hF
  obtain ⟨t2, rfl, ht2⟩ := hv
  subst hF
  (conv => whnf)
  refine VCmp.mk (fun h => absurd rfl h) (fun _ => ?_); (conv => whnf)
  refine ⟨⟨t1, t2, rfl, ?_, ?_, h9.keepNo k10⟩, kp10⟩
  · rw [hpl]; exact ht1.keepNo k10
  · rw [hql]; exact ht2
end Go.Proofs.YtgmopcbfgcagaaaDoor
