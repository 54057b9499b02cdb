/-
  The document's inflate: a packet.
-/
import Derived.Test.YtgmopcbfgcagaaaDoorK14
namespace Go.Proofs.YtgmopcbfgcagaaaDoor
open Go V

/-- Block m is the document's inflater with this history. -/
def RinV (w : World) (base m : Nat) (H : Option Addr) (c : Nat) (hist : List UInt8) : Prop := Blk w m TRi [.slice H hist.length c] ∧ Own w base T8 1 H hist.length c (hist.map vb)
theorem RinV.keep {S : Nat → Prop} {w w' : World} {base m : Nat} {H : Option Addr} {c : Nat} {hist : List UInt8} (h : RinV w base m H c hist) (k : Keep S w w') (h1 : ¬ S m) (h2 : ∀ i, ownS H i → ¬ S i) : RinV w' base m H c hist :=
  ⟨h.1.keep k h1, h.2.keep k (fun a ha => h2 _ ⟨a, ha, rfl⟩)⟩
theorem RinV.keepNo {w w' : World} {base m : Nat} {H : Option Addr} {c : Nat} {hist : List UInt8} (h : RinV w base m H c hist) (k : Keep No w w') : RinV w' base m H c hist := h.keep k id (fun _ _ => id)
structure RpkR (base m : Nat) (H : Option Addr) (ch : Nat) (hist : List UInt8) (w w' : World) (F : Except Nat IS) (v : Value) : Prop where
  ok : ∀ s', F = .ok s' → (∃ A' c', v = .tuple #[.slice A' (s'.all.drop s'.from_).length c', .int .i64 0] ∧ Sl w' 1 A' (s'.all.drop s'.from_).length ((s'.all.drop s'.from_).map vb)) ∧ ∃ H' c', RinV w' w.heap.size m H' c' (win s'.all)
  bad : ∀ e, F = .error e → v = .tuple #[.slice none 0 0, .int .i64 e] ∧ e ≠ 0 ∧ RinV w' base m H ch hist
theorem RpkR.mkBad {base m : Nat} {H : Option Addr} {ch : Nat} {hist : List UInt8} {w w' : World} {F : Except Nat IS} {v : Value} {e : Nat} (hF : F = .error e) (he : e ≠ 0) (hv : v = .tuple #[.slice none 0 0, .int .i64 e]) (h : RinV w' base m H ch hist) : RpkR base m H ch hist w w' F v :=
  ⟨fun _ h2 => by rw [hF] at h2; injection h2, fun _ h2 => by rw [hF] at h2; injection h2 with h2; subst h2; exact ⟨hv, he, h⟩⟩

set_option maxRecDepth 100000 in
set_option maxHeartbeats 8000000 in
theorem rpacket_ok (w : World) {base m : Nat} {H : Option Addr} {ch : Nat} {hist : List UInt8} (h : RinV w base m H ch hist) (hh : hist.length ≤ 100000) {A : Option Addr} {n c : Nat} {b : List UInt8} (hb : Sl w 1 A n (b.map vb)) (hn : n ≤ 10000) {most : Nat} (hmo : most ≤ 100000) :
    VC Tryd.prog 16 [.pointer (some ⟨m, 0, none⟩), .slice A n c, .int .i64 most] w
      (fun v w' => RpkR base m H ch hist w w' (packK (8 * (tailB b).length + 1) (startS (tailB b) hist most)) v ∧ Keep (fun k => k = m) w w') := by
  have hbl : b.length = n := by simpa using hb.len
  have hcc := h.2.le
  have noM : ∀ {w1 w2 : World}, Keep No w1 w2 → Keep (fun k => k = m) w1 w2 := fun k => k.mono fun _ _ h => h.elim
  have hmlt := Blk.lt h.1
  obtain ⟨F, hF⟩ : ∃ F, F = packK (8 * (tailB b).length + 1) (startS (tailB b) hist most) := ⟨_, rfl⟩
  rw [← hF]
  refine VC.of tt_ok Tryd.func16 rfl (by decide +kernel) (Nat.le_of_ble_eq_true rfl) ?_; (conv => whnf)
  apply withKey (T := fun N0 c0 Q => ∀ (fr : Fr) (w4 : World) (bs x bb : Nat) (Ab : Option Addr) (cb : Nat) (A4 : Option Addr) (c4 : Nat), fhas fr [(0, .pointer (some ⟨m, 0, none⟩)), (8, .pointer (some ⟨x, 0, none⟩)), (9, .bool false)] →
    (RfV w4 bs x bb Ab cb A4 c4 (startS (tailB b) hist most) ∧ Keep No w w4 ∧ w.heap.size ≤ bs ∧ bs ≤ w4.heap.size) → VLoop Tryd.prog tt N0 c0 Q fr w4)
  case use =>
    intro key
    refine VDraw.by_ tt_ok rfl (.take 0 (.take 4 (.take 5 (.take 6 (.take 7 (.take 8 (.two 1 (.one 2 (.one 3 (.one 9 (.take 10 .done)))) 2 (.one 1 (.one 3 (.one 9 (.take 10 .done))))))))))) (by decide +kernel) _ (fun x h1 h2 h3 h4 => Keep.ofHeap h1 h2 h3 h4) (fun wd hd kd => ?_)
    (conv => whnf)
    refine VLoad.keep (h.1.cell 0) ?_
    (conv => whnf)
    have hbd := hb.keepNo kd
    refine ⟨?_, ?_⟩
    · refine (copy_ok wd hbd (by omega)).mono ?_
      rintro v w1 ⟨A1, c1, rfl, ho1, k1⟩
      (conv => whnf)
      refine VOwe.same (kd.trans k1) ?_
      (conv => whnf)
      refine VFill.by_ rfl ?_; (conv => whnf)
      refine ⟨fun w2 hb2 k2 => ?_⟩
      have ho1 := ho1.keepNo k2
      have hs2 : Sl w2 1 (some ⟨w1.heap.size, 0, none⟩) 4 (([0, 0, 255, 255] : List UInt8).map vb) := Sl.ofBlk (n := 4) (size := 1) hb2 rfl
      have kc := k1.trans k2
      (conv => whnf)
      refine VOwe.same (kd.trans kc) ?_
      (conv => whnf)
      refine VApp.own tt_ok (it := ty22) (ei := ty5) rfl rfl rfl (size := 1) rfl rfl (by omega) ho1 hs2 (one8 [0, 0, 255, 255]) (by show (n + 4) * 1 ≤ _; omega) (by omega) kc.size ?_
      intro A3 c3 w3 ho3 k3 _
      have kdd : Keep No wd w3 := kc.own ho1 k3
      have hk3 : Keep No w w3 := kd.trans kdd
      rw [← List.map_append] at ho3
      have eT : b ++ [0, 0, 255, 255] = tailB b := rfl
      rw [eT] at ho3
      have hTl : (tailB b).length = n + 4 := by unfold tailB; rw [List.length_append, hbl]; rfl
      (conv => whnf)
      refine VOwe.same (kd.trans kdd) ?_
      (conv => whnf)
      refine (ropen_ok w3 (b := tailB b) (hist := hist) (Sl.ofOwn ho3) (Sl.ofOwn (h.2.keepNo hk3)) (by omega) (by omega) hcc most).mono ?_
      rintro v w4 ⟨⟨x, bb, Ab, cb, A4, c4, rfl, h4⟩, k4⟩
      (conv => whnf)
      refine VOwe.same ((kd.trans kdd).trans k4) ?_
      (conv => whnf)
      exact key _ w4 w3.heap.size x bb Ab cb A4 c4 ⟨rfl, rfl, rfl, trivial⟩ ⟨h4, hk3.trans k4, hk3.size, k4.size⟩
    · refine VFill.by_ rfl ?_; (conv => whnf)
      refine ⟨fun w1 hb1 k1 => ?_⟩
      have hs1 : Sl w1 1 (some ⟨wd.heap.size, 0, none⟩) 4 (([0, 0, 255, 255] : List UInt8).map vb) := Sl.ofBlk (n := 4) (size := 1) hb1 rfl
      (conv => whnf)
      refine VOwe.same (kd.trans k1) ?_
      (conv => whnf)
      refine (copy_ok w1 (hbd.keepNo k1) (by omega)).mono ?_
      rintro v w2 ⟨A2, c2, rfl, ho1, k2⟩
      have hs2 := hs1.keepNo k2
      have kc := k1.trans k2
      (conv => whnf)
      refine VOwe.same (kd.trans kc) ?_
      (conv => whnf)
      refine VApp.own tt_ok (it := ty22) (ei := ty5) rfl rfl rfl (size := 1) rfl rfl (by omega) ho1 hs2 (one8 [0, 0, 255, 255]) (by show (n + 4) * 1 ≤ _; omega) (by omega) k2.size ?_
      intro A3 c3 w3 ho3 k3 _
      have kdd : Keep No wd w3 := k1.trans (k2.own ho1 k3)
      have hk3 : Keep No w w3 := kd.trans kdd
      rw [← List.map_append] at ho3
      have eT : b ++ [0, 0, 255, 255] = tailB b := rfl
      rw [eT] at ho3
      have hTl : (tailB b).length = n + 4 := by unfold tailB; rw [List.length_append, hbl]; rfl
      (conv => whnf)
      refine VOwe.same (kd.trans kdd) ?_
      (conv => whnf)
      refine (ropen_ok w3 (b := tailB b) (hist := hist) (Sl.ofOwn ho3) (Sl.ofOwn (h.2.keepNo hk3)) (by omega) (by omega) hcc most).mono ?_
      rintro v w4 ⟨⟨x, bb, Ab, cb, A4, c4, rfl, h4⟩, k4⟩
      (conv => whnf)
      refine VOwe.same ((kd.trans kdd).trans k4) ?_
      (conv => whnf)
      exact key _ w4 w3.heap.size x bb Ab cb A4 c4 ⟨rfl, rfl, rfl, trivial⟩ ⟨h4, hk3.trans k4, hk3.size, k4.size⟩
  intro fr w4 bs x bb Ab cb A4 c4 hfr ⟨h4, kp4, hbs, hbs2⟩
  have hTl : (tailB b).length = n + 4 := by unfold tailB; rw [List.length_append, hbl]; rfl
  have hwl : (win hist).length ≤ 32768 := by unfold win; rw [List.length_drop]; omega
  have hf4 : Fine (startS (tailB b) hist most) := by
    unfold Fine
    rw [start_all, start_from]
    refine ⟨show (tailB b).length ≤ _ by omega, Nat.zero_le _, Nat.le_refl _, Nat.le_add_right _ _, show (win hist).length + most ≤ _ by omega⟩
  refine VLoop.sub hfr ?_
  refine VLoop.by_ tt_ok (S := Nat × IS × Option Addr × Nat × Bool) (fun | (f, s, Ak, ck, em) => [(0, .pointer (some ⟨m, 0, none⟩)), (8, .pointer (some ⟨x, 0, none⟩)), (9, .bool em)])
    (fun | (f, s, Ak, ck, em) => fun w' => Fine s ∧ s.l = tailB b ∧ 8 * (tailB b).length < s.at_ + f ∧ F = (if s.at_ < 8 * s.l.length then packK f s else if em then .ok s else .error 10) ∧ RfV w' bs x bb Ab cb Ak ck s ∧ s.from_ + s.most ≤ 200000 ∧ Keep No w w') (fun | (f, _, _, _, _) => f)
    (8 * (tailB b).length + 1, startS (tailB b) hist most, A4, c4, false) ⟨rfl, rfl, rfl, trivial⟩ ⟨hf4, rfl, by omega, by rw [if_pos (show (startS (tailB b) hist most).at_ < 8 * (startS (tailB b) hist most).l.length from show 0 < 8 * (tailB b).length by omega)]; exact hF, h4, by rw [start_from]; show (win hist).length + most ≤ _; omega, kp4⟩ ?_
  clear h4 hf4 hF hfr
  rintro ⟨f, s, Ak, ck, em⟩ w5 ⟨hf, hsl, hfu, hF, h5, hfm, kp⟩
  have hf0 := hf
  obtain ⟨f1, f2, f3, f4, f5⟩ := hf
  have hop : (openP false s.l).length = 8 * s.l.length := openP_len _ _
  have hsz := kp.size
  (conv => whnf)
  refine VLoad.by_ (h5.1.1.cell 0) ?_
  (conv => whnf)
  refine (bitsLeft_ok w5 h5.1.2.1 (by omega) (by omega)).mono ?_
  rintro v w6 ⟨rfl, k6⟩
  have kp6 := kp.trans k6
  have h6 := h5.keepNo k6
  have hw6 : bs ≤ w6.heap.size := by have := Blk.lt h6.1.1; have := h6.1.2.2.2.1; omega
  (conv => whnf)
  refine VCmp.mk (fun gl => ?_) (fun gl => ?_) <;> (conv => whnf)
  · rw [hop] at gl
    rw [if_pos (by omega)] at hF
    obtain ⟨g, rfl⟩ : ∃ g, f = g + 1 := ⟨f - 1, by rw [hsl] at f2; omega⟩
    unfold packK at hF
    obtain ⟨G, hG⟩ : ∃ G, G = blockF s := ⟨_, rfl⟩
    have hB := rblock_ok w6 h6 hw6 hf0
    rw [← hG] at hF hB
    refine hB.mono ?_
    rintro v w7 ⟨hv, k7⟩
    have kp7 : Keep No w w7 := kp6.toNo k7 (fun i hi => by
      rcases hi with rfl | rfl | ⟨a, ha, rfl⟩
      · have := h6.1.2.2.2.1; omega
      · have := h6.1.2.2.2.2; omega
      · have := (h6.1.2.2.1.base_ ha).1; omega)
    cases G with
    | error e =>
      have hF : F = .error e := hF
      obtain ⟨⟨a, a', rfl⟩, hbad⟩ := hv.bad _ rfl
      have he := hbad.1
      (conv => whnf)
      refine VLoad.by_ hbad.cell ?_
      (conv => whnf)
      refine VCmp.mk (fun h => absurd h (by omega)) (fun _ => ?_); (conv => whnf)
      refine VLoad.by_ hbad.cell ?_
      (conv => whnf)
      refine VCmp.mk (fun _ => ?_) (fun h => absurd h (by omega)); (conv => whnf)
      refine VDraw.by_ tt_ok rfl (.take 0 (.take 1 (.take 2 (.take 3 (.take 4 (.take 5 .done)))))) (by decide +kernel) _ (fun x h1 h2 h3 h4 => Keep.ofHeap h1 h2 h3 h4) (fun wd hd kd => ?_)
      (conv => whnf)
      refine VLoad.keep hbad.cell ?_
      (conv => whnf)
      exact ⟨.mkBad hF hbad.1 rfl (h.keepNo ((kp7).trans kd)), noM ((kp7).trans kd)⟩
    | ok t =>
    obtain ⟨s', la, em'⟩ := t
    obtain ⟨rfl, A', c', h7, hat⟩ := hv.ok _ _ _ rfl
    obtain ⟨q1, q2, q3, q4, q5⟩ := blockF_fine hf0 hG.symm
    cases la with
    | true =>
      have hF : F = .error 10 := hF
      (conv => whnf)
      refine VLoad.by_ (h7.1.1.cell 4) ?_
      (conv => whnf)
      refine VCmp.mk (fun _ => ?_) (fun h => absurd rfl h); (conv => whnf)
      refine (rfail2_ok w7 h7 (k := 10) (by decide)).mono ?_
      rintro v w8 ⟨rfl, hbad, k8⟩
      have kp8 : Keep No w w8 := kp7.toNo k8 (fun i hi => by subst hi; have := h6.1.2.2.2.1; omega)
      (conv => whnf)
      refine VLoad.by_ hbad.cell ?_
      (conv => whnf)
      refine VCmp.mk (fun _ => ?_) (fun h => absurd h (by omega)); (conv => whnf)
      refine VDraw.by_ tt_ok rfl (.take 0 (.take 1 (.take 2 (.take 3 (.take 4 (.take 5 .done)))))) (by decide +kernel) _ (fun x h1 h2 h3 h4 => Keep.ofHeap h1 h2 h3 h4) (fun wd hd kd => ?_)
      (conv => whnf)
      refine VLoad.keep hbad.cell ?_
      (conv => whnf)
      exact ⟨.mkBad hF hbad.1 rfl (h.keepNo ((kp8).trans kd)), noM ((kp8).trans kd)⟩
    | false =>
      have hF : F = if s'.at_ < 8 * s'.l.length then packK g s' else if em' then .ok s' else .error 10 := hF
      (conv => whnf)
      refine VLoad.by_ (h7.1.1.cell 4) ?_
      (conv => whnf)
      refine VCmp.mk (fun _ => ?_) (fun h => absurd rfl h); (conv => whnf)
      refine VLoad.by_ (h7.1.1.cell 4) ?_
      (conv => whnf)
      refine VCmp.mk (fun h => absurd rfl h) (fun _ => ?_); (conv => whnf)
      exact ⟨(g, s', A', c', em'), ⟨rfl, rfl, rfl, trivial⟩, ⟨q1, by rw [q2, hsl], by omega, hF, h7, by omega, kp7⟩, by dsimp only; omega⟩
  rw [hop] at gl
  rw [if_neg (by omega)] at hF
  cases em with
  | false =>
    have hF : F = .error 10 := hF
    (conv => whnf)
    exact ⟨.mkBad hF (by decide) rfl (h.keepNo kp6), noM kp6⟩
  | true =>
    have hF : F = .ok s := hF
    have hsx := Sl.ofOwn h6.1.2.2.1
    have hcx := h6.1.2.2.1.le
    (conv => whnf)
    refine VDraw.by_ tt_ok rfl (.take 0 (.take 1 (.take 2 (.take 3 (.take 4 (.take 5 (.take 6 (.take 7 (.take 8 (.one 9 (.take 10 .done))))))))))) (by decide +kernel) _ (fun x h1 h2 h3 h4 => Keep.ofHeap h1 h2 h3 h4) (fun wd hd kd => ?_)
    (conv => whnf)
    refine VLoad.keep (h6.1.1.cell 1) ?_
    (conv => whnf)
    refine VLoad.keep (h6.1.1.cell 2) ?_
    (conv => whnf)
    refine VReq.mk hcx ?_
    refine VCut.by_ s.from_ s.all.length rfl rfl f3 hcx ?_
    intro A8 hA8
    have h8 := Sl.cut8 hsx (l := s.from_) (h := s.all.length) f3 (Nat.le_refl _) hcx (A' := A8) hA8
    rw [List.take_of_length_le (Nat.le_refl _)] at h8
    have e : s.all.length - s.from_ = (s.all.drop s.from_).length := by rw [List.length_drop]
    rw [e] at h8
    rw [e]
    (conv => whnf)
    refine (copy_ok wd (h8.keepNo kd) (by rw [List.length_drop]; omega)).mono ?_
    rintro v w9 ⟨A9, c9, rfl, ho9, k9⟩
    (conv => whnf)
    refine VOwe.same (kd.trans k9) ?_
    (conv => whnf)
    have kp9 := (kp6.trans kd).trans k9
    have h9 := (h6.keepNo kd).keepNo k9
    refine VLoad.by_ (h9.1.1.cell 1) ?_
    (conv => whnf)
    refine (rlast_ok w9 (Sl.ofOwn h9.1.2.2.1) h9.1.2.2.1.le (by omega)).mono ?_
    rintro v w10 ⟨A10, c10, rfl, ho10, k10⟩
    have kp10 := kp9.trans k10
    have hm10 := h.1.keepNo kp10
    (conv => whnf)
    refine VStore.one hm10 (by simp) ?_
    intro w11 hm11 k11 _
    (conv => whnf)
    refine ⟨⟨fun s' e' => ?_, fun e' h' => by rw [hF] at h'; injection h'⟩, (noM kp10).trans k11⟩
    rw [hF] at e'
    injection e' with e'
    subst e'
    exact ⟨⟨A9, c9, rfl, ((Sl.ofOwn ho9).keepNo k10).keep k11 (fun a ha e => ((ho9.ty ha).keepNo k10).ne hm10.ty (by decide) e)⟩, A10, c10, hm11, (ho10.mono kp9.size).keep k11 (fun a ha e => (ho10.ty ha).ne hm10.ty (by decide) e)⟩
end Go.Proofs.YtgmopcbfgcagaaaDoor
