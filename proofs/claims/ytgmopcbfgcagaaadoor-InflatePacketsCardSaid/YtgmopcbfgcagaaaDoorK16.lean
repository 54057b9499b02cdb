/-
  Package inflate: the inflater once more, its history's block not among some others.
-/
import Derived.Test.YtgmopcbfgcagaaaDoorK15
namespace Go.Proofs.YtgmopcbfgcagaaaDoor
open Go V

/-- Block y is an inflater with this history. -/
def InrN (N : Nat → Prop) (w : World) (y : Nat) (hist : List UInt8) : Prop :=
  ∃ H c, Blk w y TIn [.bool true, .slice H hist.length c] ∧ Sl w 1 H hist.length (hist.map vb) ∧ hist.length ≤ c ∧ ∀ a, H = some a → Ty w a.block T8 ∧ ¬ N a.block
theorem InrN.keep {N : Nat → Prop} {S : Nat → Prop} {w w' : World} {y : Nat} {hist : List UInt8} (h : InrN N w y hist) (k : Keep S w w') (h1 : ¬ S y) (h2 : ∀ i, Ty w i T8 → ¬ S i) : InrN N w' y hist := by
  obtain ⟨H, c, g1, g2, g3, g4⟩ := h
  exact ⟨H, c, g1.keep k h1, g2.keep k (fun a ha => h2 _ (g4 a ha).1), g3, fun a ha => ⟨(g4 a ha).1.keep k (h2 _ (g4 a ha).1), (g4 a ha).2⟩⟩
theorem InrN.keepNo {N : Nat → Prop} {w w' : World} {y : Nat} {hist : List UInt8} (h : InrN N w y hist) (k : Keep No w w') : InrN N w' y hist := h.keep k id (fun _ _ => id)
theorem InrN.lt {N : Nat → Prop} {w : World} {y : Nat} {hist : List UInt8} (h : InrN N w y hist) : y < w.heap.size := by
  obtain ⟨H, c, g1, _⟩ := h
  exact Blk.lt g1

theorem inewN_ok {N : Nat → Prop} (w : World) : VC Tryd.prog 12 [] w (fun v w' => (∃ y, v = .pointer (some ⟨y, 0, none⟩) ∧ InrN N w' y [] ∧ w.heap.size ≤ y) ∧ Keep No w w') := by
  refine VC.of tt_ok Tryd.func12 rfl (by decide +kernel) (Nat.le_of_ble_eq_true rfl) ?_; (conv => whnf)
  refine VFill.by_ rfl ?_; (conv => whnf)
  refine ⟨fun w1 hb kp => ?_⟩; have hb_lt := Blk.lt hb; have kp_sz := kp.size; (conv => whnf)
  exact ⟨⟨_, rfl, ⟨none, 0, hb, Sl.nil, Nat.le_refl _, fun a ha => by cases ha⟩, Nat.le_refl _⟩, kp⟩

theorem ilenN_ok {N : Nat → Prop} (w : World) {y : Nat} {hist : List UInt8} (h : InrN N w y hist) : VC Tryd.prog 14 [.pointer (some ⟨y, 0, none⟩)] w (fun v w' => v = .int .i64 hist.length ∧ w' = w) := by
  obtain ⟨H, c, g1, g2, g3, g4⟩ := h
  refine VC.of tt_ok Tryd.func14 rfl (by decide +kernel) (Nat.le_of_ble_eq_true rfl) ?_; (conv => whnf)
  refine VLoad.by_ (g1.cell 1) ?_
  (conv => whnf)
  exact ⟨rfl, rfl⟩

set_option maxRecDepth 100000 in
theorem iaddN_ok {N : Nat → Prop} (w : World) (hN : ∀ i, N i → i < w.heap.size) {y : Nat} {hist : List UInt8} (h : InrN N w y hist) {A : Option Addr} {n c : Nat} {b : List UInt8} (hb : Sl w 1 A n (b.map vb)) (hn : n ≤ 1000000) (hh : hist.length ≤ 1000000) :
    VC Tryd.prog 15 [.pointer (some ⟨y, 0, none⟩), .slice A n c] w (fun v w' => (v = .tuple #[] ∧ InrN N w' y (win (hist ++ b))) ∧ Keep (fun k => k = y) w w') := by
  have hbl : b.length = n := by simpa using hb.len
  obtain ⟨H, ch, g1, g2, g3, g4⟩ := h
  refine VC.of tt_ok Tryd.func15 rfl (by decide +kernel) (Nat.le_of_ble_eq_true rfl) ?_; (conv => whnf)
  refine VLoad.by_ (g1.cell 0) ?_
  (conv => whnf)
  refine VLoad.by_ (g1.cell 1) ?_
  (conv => whnf)
  refine (clone_ok w g2 (by omega)).mono ?_
  rintro v w1 ⟨A1, c1, rfl, ho1, k1⟩
  have g1 := g1.keepNo k1
  have hylt := Blk.lt g1
  (conv => whnf)
  refine VApp.own tt_ok (it := ty22) (ei := ty5) rfl rfl rfl (size := 1) rfl rfl (by omega) ho1 (hb.keepNo k1) (one8 b) (by show (hist.length + n) * 1 ≤ _; omega) (by omega) k1.size ?_
  intro A2 c2 w2 ho2 k2 _
  have kp := k1.own ho1 k2
  have g1 := g1.keep k2 (fun ⟨a, ha, e⟩ => (ho1.ty ha).ne g1.ty (by decide) e)
  obtain ⟨L, hL⟩ : ∃ L, L = hist ++ b := ⟨_, rfl⟩
  have hLl : L.length = hist.length + n := by rw [hL, List.length_append, hbl]
  rw [← List.map_append, ← hL, ← hLl] at ho2
  rw [← hLl]
  rw [← hL]
  have hc2 := ho2.le
  (conv => whnf)
  refine VRes.i64 (by omega) ?_; (conv => whnf)
  have hmx : (if (L.length : Int) - 32768 > 0 then (L.length : Int) - 32768 else 0) = ((L.length - 32768 : Nat) : Int) := by split <;> omega
  refine VRes.to (congrArg (Value.int .i64) hmx) ?_
  (conv => whnf)
  refine VReq.mk hc2 ?_
  refine VCut.by_ (L.length - 32768) L.length rfl rfl (by omega) hc2 ?_
  intro A3 hA3
  have h3 := Sl.cut8 (Sl.ofOwn ho2) (l := L.length - 32768) (h := L.length) (by omega) (Nat.le_refl _) hc2 (A' := A3) hA3
  rw [List.take_of_length_le (Nat.le_refl _)] at h3
  have ew : L.drop (L.length - 32768) = win L := by unfold win; exact Eq.refl _
  have el : L.length - (L.length - 32768) = (win L).length := by unfold win; rw [List.length_drop]
  rw [ew, el] at h3
  rw [el]
  have hty3 : ∀ a, A3 = some a → Ty w2 a.block T8 ∧ w.heap.size ≤ a.block := by
    intro a ha
    rw [hA3] at ha
    split at ha
    · exact ⟨ho2.ty ha, (ho2.base_ ha).1⟩
    · cases hA2 : A2 with
      | none => rw [hA2] at ha; cases ha
      | some a2 =>
        rw [hA2] at ha
        have e := Option.some.inj ha
        have h5 := And.intro (ho2.ty hA2) (ho2.base_ hA2).1
        dsimp only at e
        generalize (L.length - 32768) * ty5.size = q at e
        rcases ho2.2 with ⟨hv, _⟩ | ⟨g, cap, cur, hv, _⟩
        · rw [hA2] at hv; cases hv
        · have hg : A2 = some ⟨g, 0, none⟩ := by injection hv
          rw [hA2] at hg
          have hg := Option.some.inj hg
          subst hg
          rw [addr_add] at e
          rw [← e]
          exact h5
  (conv => whnf)
  refine VStore.one g1 (by simp) ?_
  intro w3 hb3 k3 _
  (conv => whnf)
  have hcap : (win L).length ≤ c2 - (L.length - 32768) := by rw [← el]; omega
  exact ⟨⟨rfl, A3, _, hb3, h3.keep k3 (fun a ha e => (hty3 a ha).1.ne g1.ty (by decide) e), hcap, fun a ha => ⟨(hty3 a ha).1.keep k3 (fun e => (hty3 a ha).1.ne g1.ty (by decide) e), fun hn => by have := hN _ hn; have := (hty3 a ha).2; omega⟩⟩, (kp.mono fun _ _ h => h.elim).trans k3⟩

set_option maxRecDepth 100000 in
set_option maxHeartbeats 4000000 in
theorem packetN_ok {N : Nat → Prop} (w : World) (hN : ∀ i, N i → i < w.heap.size) (hg : EtOk w) {y : Nat} {hist : List UInt8} (h : InrN N w y hist) (hh : hist.length ≤ 32768) {A : Option Addr} {n c : Nat} {b : List UInt8} (hb : Sl w 1 A n (b.map vb)) (hn : n ≤ 100000) {most : Nat} (hmo : most ≤ 100000) :
    VC Tryd.prog 13 [.pointer (some ⟨y, 0, none⟩), .slice A n c, .int .i64 most] w
      (fun v w' => (match packK (8 * (tailB b).length + 1) (startS (tailB b) hist most) with | .error e => (v = .tuple #[.slice none 0 0, .int .i64 e] ∧ e ≠ 0) ∧ InrN N w' y hist | .ok s' => (∃ A' c', v = .tuple #[.slice A' (s'.all.drop s'.from_).length c', .int .i64 0] ∧ Sl w' 1 A' (s'.all.drop s'.from_).length ((s'.all.drop s'.from_).map vb)) ∧ InrN N w' y (win (hist ++ s'.all.drop s'.from_))) ∧ Keep (fun k => k = y) w w') := by
  have hbl : b.length = n := by simpa using hb.len
  have h0 := h
  obtain ⟨H, ch, g1, g2, g3, g4⟩ := h
  have hylt := Blk.lt g1
  obtain ⟨F, hF⟩ : ∃ F, F = packK (8 * (tailB b).length + 1) (startS (tailB b) hist most) := ⟨_, rfl⟩
  rw [← hF]
  have noY : ∀ {w1 w2 : World}, Keep No w1 w2 → Keep (fun k => k = y) w1 w2 := fun k => k.mono fun _ _ h => h.elim
  refine VC.of tt_ok Tryd.func13 rfl (by decide +kernel) (Nat.le_of_ble_eq_true rfl) ?_; (conv => whnf)
  refine VLoad.by_ (g1.cell 0) ?_
  (conv => whnf)
  refine VDraw.by_ tt_ok rfl (.take 0 (.take 4 (.take 5 (.take 6 (.take 7 (.take 8 (.two 1 (.one 2 (.one 3 (.one 9 (.take 10 .done)))) 2 (.one 1 (.one 3 (.one 9 (.take 10 .done))))))))))) (by decide +kernel) _ (fun x h1 h2 h3 h4 => Keep.ofHeap h1 h2 h3 h4) (fun wd hd kd => ?_)
  (conv => whnf)
  refine VLoad.keep (g1.cell 1) ?_
  (conv => whnf)
  refine ⟨?_, ?_⟩
  · refine (clone_ok wd (hb.keepNo kd) (by omega)).mono ?_
    rintro v w1 ⟨A1, c1, rfl, ho1, k1⟩
    (conv => whnf)
    refine VOwe.same (kd.trans k1) ?_
    (conv => whnf)
    refine VFill.by_ rfl ?_; (conv => whnf)
    refine ⟨fun w2 hb2 k2 => ?_⟩
    have ho1 := ho1.keepNo k2
    have hs2 : Sl w2 1 (some ⟨w1.heap.size, 0, none⟩) 4 (([0, 0, 255, 255] : List UInt8).map vb) := Sl.ofBlk (n := 4) (size := 1) hb2 rfl
    have kdd := (kd.trans k1).trans k2
    have kc := k1.trans k2
    (conv => whnf)
    refine VOwe.same kdd ?_
    (conv => whnf)
    refine VApp.own tt_ok (it := ty22) (ei := ty5) rfl rfl rfl (size := 1) rfl rfl (by omega) ho1 hs2 (one8 [0, 0, 255, 255]) (by show (n + 4) * 1 ≤ _; omega) (by omega) kc.size ?_
    intro A3 c3 w3 ho3 k3 _
    have k3 : Keep No wd w3 := kc.own ho1 k3
    have kdd := kd.trans k3
    have kp := kdd
    have hw3 : w.heap.size ≤ w3.heap.size := kp.size
    have hk3 : Keep No w w3 := kp
    rw [← List.map_append] at ho3
    have eT : b ++ [0, 0, 255, 255] = tailB b := rfl
    rw [eT] at ho3
    have hTl : (tailB b).length = n + 4 := by unfold tailB; rw [List.length_append, hbl]; rfl
    (conv => whnf)
    refine VOwe.same kdd ?_
    (conv => whnf)
    refine (start_ok w3 (b := tailB b) (hist := hist) (Sl.ofOwn ho3) (g2.keepNo hk3) (by omega) (by omega) g3 most).mono ?_
    rintro v w4 ⟨⟨x, rb, Ar, cr, A4, c4, rfl, h4⟩, k4⟩
    have kp := kp.trans k4
    have hf4 : Fine (startS (tailB b) hist most) := by
      unfold startS Fine
      dsimp only
      rw [List.length_drop]
      exact ⟨by omega, by omega, Nat.le_refl _, by omega, by omega⟩
    have kdd := kdd.trans k4
    (conv => whnf)
    refine VOwe.same kdd ?_
    (conv => whnf)
    refine VLoop.by_ tt_ok (S := Nat × IS × Option Addr × Nat) (fun | (f, s, Ak, ck) => [(0, .pointer (some ⟨y, 0, none⟩)), (8, .pointer (some ⟨x, 0, none⟩))])
      (fun | (f, s, Ak, ck) => fun w' => Fine s ∧ s.l = tailB b ∧ 8 * (tailB b).length < s.at_ + f ∧ F = packK f s ∧ InfV w' w3.heap.size x rb Ar cr Ak ck s ∧ s.from_ + s.most ≤ 200000 ∧ Keep No w w' ∧ Keep No w3 w') (fun | (f, _, _, _) => f)
      (8 * (tailB b).length + 1, startS (tailB b) hist most, A4, c4) ⟨rfl, rfl, trivial⟩ ⟨hf4, rfl, by dsimp only [startS]; omega, hF, h4, by unfold startS; dsimp only; rw [List.length_drop]; omega, kp, k4⟩ ?_
    clear h4 hf4 hF kp k4 kdd
    rintro ⟨f, s, Ak, ck⟩ w5 ⟨hf, hsl, hfu, hF, h5, hfm, kp, kp3⟩
    have hf0 := hf
    obtain ⟨f1, f2, f3, f4, f5⟩ := hf
    obtain ⟨g, rfl⟩ : ∃ g, f = g + 1 := ⟨f - 1, by rw [hsl] at f2; omega⟩
    unfold packK at hF
    have hsz := kp3.size
    have toNo : ∀ {w6 : World}, Keep (fp x rb Ak) w5 w6 → Keep No w3 w6 := fun k6 => kp3.toNo k6 (fun i hi => by
      rcases hi with rfl | rfl | ⟨a, ha, rfl⟩
      · exact h5.2.2.2.1
      · exact h5.2.2.2.2.1
      · exact (h5.2.2.1.base_ ha).1)
    (conv => whnf)
    refine (block_ok w5 h5 (by omega) hf0).mono ?_
    rintro v w6 ⟨hv, k6⟩
    have kp36 := toNo k6
    have kp6 := hk3.trans kp36
    cases hP : blockF s with
    | error e =>
      rw [hP] at hv hF
      obtain ⟨a, b', E, rfl, hE⟩ := hv
      obtain ⟨eb, he⟩ := hE.form
      subst hF
      subst he
      (conv => whnf)
      refine (number_ok w6 hE.1 (hg.keepNo kp6)).mono ?_
      rintro v w7 ⟨rfl, k7⟩
      (conv => whnf)
      exact ⟨⟨⟨rfl, hE.ne⟩, (h0.keepNo kp6).keepNo k7⟩, noY (kp6.trans k7)⟩
    | ok r =>
      obtain ⟨s', la, em⟩ := r
      rw [hP] at hv hF
      obtain ⟨rfl, A', c', h6, hat⟩ := hv
      obtain ⟨hf6, e1, e2, e3, e4⟩ := blockF_fine hf0 hP
      have hf60 := hf6
      obtain ⟨q1, q2, q3, q4, q5⟩ := hf6
      cases la with
      | true =>
        have hF : F = .error 10 := hF
        subst hF
        (conv => whnf)
        exact ⟨⟨⟨rfl, by decide⟩, h0.keepNo kp6⟩, noY kp6⟩
      | false =>
        have hF : F = if s'.at_ < 8 * s'.l.length then packK g s' else if em then .ok s' else .error 10 := hF
        (conv => whnf)
        refine VLoad.by_ (h6.1.cell 0) ?_
        (conv => whnf)
        refine (rdLeft_ok w6 h6.2.1 (by omega) (by omega)).mono ?_
        rintro v w7 ⟨rfl, k7⟩
        have kp7 := kp6.trans k7
        have kp37 := kp36.trans k7
        have h7 := h6.keepNo k7
        (conv => whnf)
        refine VCmp.mk (fun hl => ?_) (fun hl => ?_) <;> (conv => whnf)
        · rw [if_pos (by omega)] at hF
          exact ⟨(g, s', A', c'), ⟨rfl, rfl, trivial⟩, ⟨hf60, by rw [e1, hsl], by omega, hF, h7, by omega, kp7, kp37⟩, by dsimp only; omega⟩
        rw [if_neg (by omega)] at hF
        cases em with
        | false =>
          have hF : F = .error 10 := hF
          subst hF
          (conv => whnf)
          exact ⟨⟨⟨rfl, by decide⟩, h0.keepNo kp7⟩, noY kp7⟩
        | true =>
          have hF : F = .ok s' := hF
          subst hF
          (conv => whnf)
          refine (told_ok w7 h7 q3 (by omega)).mono ?_
          rintro v w8 ⟨A8, c8, rfl, ho8, k8⟩
          have kp8 := kp7.trans k8
          (conv => whnf)
          refine (iaddN_ok w8 (fun i hi => Nat.lt_of_lt_of_le (hN i hi) kp8.size) (h0.keepNo kp8) (Sl.ofOwn ho8) (by rw [List.length_drop]; omega) (by omega)).mono ?_
          rintro v w9 ⟨⟨rfl, h9⟩, k9⟩
          have hy8 := (h0.keepNo kp8)
          (conv => whnf)
          refine ⟨⟨⟨A8, c8, rfl, (Sl.ofOwn ho8).keep k9 (fun a ha e => ?_)⟩, h9⟩, (noY kp8).trans k9⟩
          obtain ⟨_, _, z1, _⟩ := hy8
          exact (ho8.ty ha).ne z1.ty (by decide) e
  · refine VFill.by_ rfl ?_; (conv => whnf)
    refine ⟨fun w1 hb1 k1 => ?_⟩
    have hs1 : Sl w1 1 (some ⟨wd.heap.size, 0, none⟩) 4 (([0, 0, 255, 255] : List UInt8).map vb) := Sl.ofBlk (n := 4) (size := 1) hb1 rfl
    (conv => whnf)
    refine VOwe.same (kd.trans k1) ?_
    (conv => whnf)
    refine (clone_ok w1 ((hb.keepNo kd).keepNo k1) (by omega)).mono ?_
    rintro v w2 ⟨A2, c2, rfl, ho1, k2⟩
    have hs2 := hs1.keepNo k2
    have kdd := (kd.trans k1).trans k2
    (conv => whnf)
    refine VOwe.same kdd ?_
    (conv => whnf)
    refine VApp.own tt_ok (it := ty22) (ei := ty5) rfl rfl rfl (size := 1) rfl rfl (by omega) ho1 hs2 (one8 [0, 0, 255, 255]) (by show (n + 4) * 1 ≤ _; omega) (by omega) k2.size ?_
    intro A3 c3 w3 ho3 k3 _
    have k3 : Keep No w1 w3 := k2.own ho1 k3
    have kdd := (kd.trans k1).trans k3
    have kp := kdd
    have hw3 : w.heap.size ≤ w3.heap.size := kp.size
    have hk3 : Keep No w w3 := kp
    rw [← List.map_append] at ho3
    have eT : b ++ [0, 0, 255, 255] = tailB b := rfl
    rw [eT] at ho3
    have hTl : (tailB b).length = n + 4 := by unfold tailB; rw [List.length_append, hbl]; rfl
    (conv => whnf)
    refine VOwe.same kdd ?_
    (conv => whnf)
    refine (start_ok w3 (b := tailB b) (hist := hist) (Sl.ofOwn ho3) (g2.keepNo hk3) (by omega) (by omega) g3 most).mono ?_
    rintro v w4 ⟨⟨x, rb, Ar, cr, A4, c4, rfl, h4⟩, k4⟩
    have kp := kp.trans k4
    have hf4 : Fine (startS (tailB b) hist most) := by
      unfold startS Fine
      dsimp only
      rw [List.length_drop]
      exact ⟨by omega, by omega, Nat.le_refl _, by omega, by omega⟩
    have kdd := kdd.trans k4
    (conv => whnf)
    refine VOwe.same kdd ?_
    (conv => whnf)
    refine VLoop.by_ tt_ok (S := Nat × IS × Option Addr × Nat) (fun | (f, s, Ak, ck) => [(0, .pointer (some ⟨y, 0, none⟩)), (8, .pointer (some ⟨x, 0, none⟩))])
      (fun | (f, s, Ak, ck) => fun w' => Fine s ∧ s.l = tailB b ∧ 8 * (tailB b).length < s.at_ + f ∧ F = packK f s ∧ InfV w' w3.heap.size x rb Ar cr Ak ck s ∧ s.from_ + s.most ≤ 200000 ∧ Keep No w w' ∧ Keep No w3 w') (fun | (f, _, _, _) => f)
      (8 * (tailB b).length + 1, startS (tailB b) hist most, A4, c4) ⟨rfl, rfl, trivial⟩ ⟨hf4, rfl, by dsimp only [startS]; omega, hF, h4, by unfold startS; dsimp only; rw [List.length_drop]; omega, kp, k4⟩ ?_
    clear h4 hf4 hF kp k4 kdd
    rintro ⟨f, s, Ak, ck⟩ w5 ⟨hf, hsl, hfu, hF, h5, hfm, kp, kp3⟩
    have hf0 := hf
    obtain ⟨f1, f2, f3, f4, f5⟩ := hf
    obtain ⟨g, rfl⟩ : ∃ g, f = g + 1 := ⟨f - 1, by rw [hsl] at f2; omega⟩
    unfold packK at hF
    have hsz := kp3.size
    have toNo : ∀ {w6 : World}, Keep (fp x rb Ak) w5 w6 → Keep No w3 w6 := fun k6 => kp3.toNo k6 (fun i hi => by
      rcases hi with rfl | rfl | ⟨a, ha, rfl⟩
      · exact h5.2.2.2.1
      · exact h5.2.2.2.2.1
      · exact (h5.2.2.1.base_ ha).1)
    (conv => whnf)
    refine (block_ok w5 h5 (by omega) hf0).mono ?_
    rintro v w6 ⟨hv, k6⟩
    have kp36 := toNo k6
    have kp6 := hk3.trans kp36
    cases hP : blockF s with
    | error e =>
      rw [hP] at hv hF
      obtain ⟨a, b', E, rfl, hE⟩ := hv
      obtain ⟨eb, he⟩ := hE.form
      subst hF
      subst he
      (conv => whnf)
      refine (number_ok w6 hE.1 (hg.keepNo kp6)).mono ?_
      rintro v w7 ⟨rfl, k7⟩
      (conv => whnf)
      exact ⟨⟨⟨rfl, hE.ne⟩, (h0.keepNo kp6).keepNo k7⟩, noY (kp6.trans k7)⟩
    | ok r =>
      obtain ⟨s', la, em⟩ := r
      rw [hP] at hv hF
      obtain ⟨rfl, A', c', h6, hat⟩ := hv
      obtain ⟨hf6, e1, e2, e3, e4⟩ := blockF_fine hf0 hP
      have hf60 := hf6
      obtain ⟨q1, q2, q3, q4, q5⟩ := hf6
      cases la with
      | true =>
        have hF : F = .error 10 := hF
        subst hF
        (conv => whnf)
        exact ⟨⟨⟨rfl, by decide⟩, h0.keepNo kp6⟩, noY kp6⟩
      | false =>
        have hF : F = if s'.at_ < 8 * s'.l.length then packK g s' else if em then .ok s' else .error 10 := hF
        (conv => whnf)
        refine VLoad.by_ (h6.1.cell 0) ?_
        (conv => whnf)
        refine (rdLeft_ok w6 h6.2.1 (by omega) (by omega)).mono ?_
        rintro v w7 ⟨rfl, k7⟩
        have kp7 := kp6.trans k7
        have kp37 := kp36.trans k7
        have h7 := h6.keepNo k7
        (conv => whnf)
        refine VCmp.mk (fun hl => ?_) (fun hl => ?_) <;> (conv => whnf)
        · rw [if_pos (by omega)] at hF
          exact ⟨(g, s', A', c'), ⟨rfl, rfl, trivial⟩, ⟨hf60, by rw [e1, hsl], by omega, hF, h7, by omega, kp7, kp37⟩, by dsimp only; omega⟩
        rw [if_neg (by omega)] at hF
        cases em with
        | false =>
          have hF : F = .error 10 := hF
          subst hF
          (conv => whnf)
          exact ⟨⟨⟨rfl, by decide⟩, h0.keepNo kp7⟩, noY kp7⟩
        | true =>
          have hF : F = .ok s' := hF
          subst hF
          (conv => whnf)
          refine (told_ok w7 h7 q3 (by omega)).mono ?_
          rintro v w8 ⟨A8, c8, rfl, ho8, k8⟩
          have kp8 := kp7.trans k8
          (conv => whnf)
          refine (iaddN_ok w8 (fun i hi => Nat.lt_of_lt_of_le (hN i hi) kp8.size) (h0.keepNo kp8) (Sl.ofOwn ho8) (by rw [List.length_drop]; omega) (by omega)).mono ?_
          rintro v w9 ⟨⟨rfl, h9⟩, k9⟩
          have hy8 := (h0.keepNo kp8)
          (conv => whnf)
          refine ⟨⟨⟨A8, c8, rfl, (Sl.ofOwn ho8).keep k9 (fun a ha e => ?_)⟩, h9⟩, (noY kp8).trans k9⟩
          obtain ⟨_, _, z1, _⟩ := hy8
          exact (ho8.ty ha).ne z1.ty (by decide) e
end Go.Proofs.YtgmopcbfgcagaaaDoor
