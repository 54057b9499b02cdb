/-
  Package inflate: a block; blocks behind a history.
-/
import Derived.Test.YtgmopcbfgcagaaaDoorI17
namespace Go.Proofs.YtgmopcbfgcagaaaDoor
open Go V

theorem clone_ok (w : World) {A : Option Addr} {n c : Nat} {l : List UInt8} (hs : Sl w 1 A n (l.map vb)) (hn : n ≤ 10000000) :
    VC Tryd.prog 23 [.slice A n c] w (fun v w' => ∃ A' c', v = .slice A' n c' ∧ Own w' w.heap.size T8 1 A' n c' (l.map vb) ∧ Keep No w w') := by
  have hl : l.length = n := by simpa using hs.len
  cases A with
  | none =>
    refine VC.of tt_ok Tryd.func23 rfl (by decide +kernel) (Nat.le_of_ble_eq_true rfl) ?_; (conv => whnf)
    have h0 : n = 0 := by
      rcases Nat.eq_zero_or_pos n with h | h
      · exact h
      · obtain ⟨b, o, h1, _⟩ := hs.at_ h; cases h1
    subst h0
    obtain rfl : l = [] := List.eq_nil_of_length_eq_zero hl
    exact ⟨none, 0, rfl, Own.nil _ _ _ _, Keep.refl _ _⟩
  | some a =>
    refine VC.of tt_ok Tryd.func23 rfl (by decide +kernel) (Nat.le_of_ble_eq_true rfl) ?_; (conv => whnf)
    refine VFill.by_ rfl ?_
    (conv => whnf)
    refine ⟨fun w1 hb1 hk1 => ?_⟩
    (conv => whnf)
    refine app8 (w0 := w) (xs := []) hk1 (Own.new (n := 0) hb1 (Nat.le_refl _) rfl (by unfold maxLen; omega)) (hs.keepNo hk1) (by omega) ?_
    intro A2 c2 w2 ho2 hk2 _ _
    (conv => whnf)
    rw [Nat.zero_add] at ho2
    exact ⟨A2, c2, by rw [Nat.zero_add]; rfl, ho2, hk2⟩

theorem told_ok (w : World) {base x rb : Nat} {Ar : Option Addr} {cr : Nat} {A : Option Addr} {c : Nat} {s : IS} (h : InfV w base x rb Ar cr A c s) (hf : s.from_ ≤ s.all.length) (hal : s.all.length ≤ 10000000) :
    VC Tryd.prog 21 [.pointer (some ⟨x, 0, none⟩)] w (fun v w' => ∃ A' c', v = .slice A' (s.all.drop s.from_).length c' ∧ Own w' w.heap.size T8 1 A' (s.all.drop s.from_).length c' ((s.all.drop s.from_).map vb) ∧ Keep No w w') := by
  have hs := Sl.ofOwn h.2.2.1
  have hc := h.2.2.1.le
  refine VC.of tt_ok Tryd.func21 rfl (by decide +kernel) (Nat.le_of_ble_eq_true rfl) ?_; (conv => whnf)
  refine VDraw.by_ tt_ok rfl (.take 0 (.take 1 (.take 2 (.take 3 (.take 4 (.take 5 (.take 6 (.take 7 (.take 8 (.one 9 (.take 10 .done))))))))))) (by decide +kernel) _ (fun x h1 h2 h3 h4 => Keep.ofHeap h1 h2 h3 h4) (fun wd hd kd => ?_)
  (conv => whnf)
  refine VLoad.keep (h.1.cell 1) ?_
  (conv => whnf)
  refine VLoad.keep (h.1.cell 2) ?_
  (conv => whnf)
  refine VReq.mk hc ?_
  refine VCut.by_ s.from_ s.all.length rfl rfl hf hc ?_
  intro A3 hA3
  have h3 := Sl.cut8 hs (l := s.from_) (h := s.all.length) hf (Nat.le_refl _) hc (A' := A3) hA3
  rw [List.take_of_length_le (Nat.le_refl _)] at h3
  have e : s.all.length - s.from_ = (s.all.drop s.from_).length := by rw [List.length_drop]
  rw [e] at h3
  rw [e]
  (conv => whnf)
  refine (clone_ok wd (h3.keepNo kd) (by rw [List.length_drop]; omega)).mono ?_
  rintro v w1 ⟨A1, c1, rfl, ho1, k1⟩
  (conv => whnf)
  refine VOwe.same (kd.trans k1) ?_
  (conv => whnf)
  exact ⟨A1, c1, rfl, ho1.mono kd.size, kd.trans k1⟩

/-- A reader of bytes behind a history. -/
def startS (b hist : List UInt8) (most : Nat) : IS := ⟨b, 0, hist.drop (hist.length - 32768), (hist.drop (hist.length - 32768)).length, most⟩
theorem start_ok (w : World) {A B : Option Addr} {n c m d : Nat} {b hist : List UInt8} (hb : Sl w 1 A n (b.map vb)) (hh : Sl w 1 B m (hist.map vb)) (hn : n ≤ 1000000) (hm : m ≤ 1000000) (hmd : m ≤ d) (most : Nat) :
    VC Tryd.prog 18 [.slice A n c, .slice B m d, .int .i64 most] w (fun v w' => (∃ x rb Ar cr A' c', v = .pointer (some ⟨x, 0, none⟩) ∧ InfV w' w.heap.size x rb Ar cr A' c' (startS b hist most)) ∧ Keep No w w') := by
  have hbl : b.length = n := by simpa using hb.len
  have hhl : hist.length = m := by simpa using hh.len
  refine VC.of tt_ok Tryd.func18 rfl (by decide +kernel) (Nat.le_of_ble_eq_true rfl) ?_; (conv => whnf)
  refine VRes.i64 (by omega) ?_; (conv => whnf)
  have hmx : (if (m : Int) - 32768 > 0 then (m : Int) - 32768 else 0) = ((m - 32768 : Nat) : Int) := by split <;> omega
  refine VRes.to (congrArg (Value.int .i64) hmx) ?_
  (conv => whnf)
  refine VReq.mk hmd ?_
  refine VCut.by_ (m - 32768) m (by omega) rfl (by omega) hmd ?_
  intro A3 hA3
  have h3 := Sl.cut8 hh (l := m - 32768) (h := m) (by omega) (Nat.le_refl _) hmd (A' := A3) hA3
  rw [List.take_of_length_le (by omega)] at h3
  obtain ⟨H, hH⟩ : ∃ H, H = hist.drop (m - 32768) := ⟨_, rfl⟩
  have hHl : H.length = m - (m - 32768) := by rw [hH, List.length_drop, hhl]
  rw [← hH] at h3
  (conv => whnf)
  refine (clone_ok w h3 (by omega)).mono ?_
  rintro v w1 ⟨A1, c1, rfl, ho1, k1⟩
  (conv => whnf)
  refine (newReader_ok w1 (hb.keepNo k1) hn).mono ?_
  rintro v w2 ⟨⟨rb, Ar, cr, rfl, hr, hrb, hAr⟩, k2⟩
  have kp := k1.trans k2
  have k1_sz := k1.size
  (conv => whnf)
  refine VFill.by_ rfl ?_; (conv => whnf)
  refine ⟨fun w3 hb3 k3 => ?_⟩
  (conv => whnf)
  have kp := kp.trans k3
  refine ⟨⟨_, rb, Ar, cr, A1, c1, rfl, ?_⟩, kp⟩
  have e1 : (startS b hist most).all = H := by unfold startS; rw [hhl, hH]
  have e2 : (startS b hist most).from_ = H.length := by unfold startS; rw [hhl, hH]
  have ho3 := (ho1.keepNo k2).keepNo k3
  rw [← hHl] at ho3 hb3
  refine ⟨?_, ?_, ?_, ?_, by omega, fun a ha => ⟨by have := (hAr a ha).1; omega, (hAr a ha).2.2.keepNo k3, fun a' ha' e => ?_⟩⟩
  · rw [e1, e2]; exact hb3
  · have := hr.keepNo k3
    rw [← hbl] at *
    exact this
  · rw [e1]; exact ho3
  · exact k1.trans k2 |>.size
  · have h4 := (hAr a ha).1
    have h5 := (ho1.base_ ha').2
    omega

def blockF (s : IS) : Except Nat (IS × Bool × Bool) :=
  if 8 * s.l.length < s.at_ + 1 then .error 2 else
  if 8 * s.l.length < s.at_ + 3 then .error 2 else
  if numL s.l (s.at_ + 1) 2 = 0 then (match plainF { s with at_ := s.at_ + 3 } with
    | .error e => .error e
    | .ok (s', z) => .ok (s', numL s.l s.at_ 1 == 1, z)) else
  if numL s.l (s.at_ + 1) 2 = 1 then (match symF fixC fixO fixDC fixDO (8 * s.l.length + 1) { s with at_ := s.at_ + 3 } with
    | .error e => .error e
    | .ok s' => .ok (s', numL s.l s.at_ 1 == 1, false)) else
  if numL s.l (s.at_ + 1) 2 = 2 then (match codesF { s with at_ := s.at_ + 3 } with
    | .error e => .error e
    | .ok (a, b, s1) => (match symF (cntK a a.length) (ordA a 15) (cntK b b.length) (ordA b 15) (8 * s.l.length + 1) s1 with
      | .error e => .error e
      | .ok s' => .ok (s', numL s.l s.at_ 1 == 1, false))) else .error 10

set_option maxRecDepth 100000 in
set_option maxHeartbeats 4000000 in
theorem block_ok (w : World) {base x rb : Nat} {Ar : Option Addr} {cr : Nat} {A : Option Addr} {c : Nat} {s : IS} (h : InfV w base x rb Ar cr A c s) (hb : base ≤ w.heap.size) (hf : Fine s) :
    VC Tryd.prog 19 [.pointer (some ⟨x, 0, none⟩)] w
      (fun v w' => (match blockF s with | .error e => ∃ a b E, v = .tuple #[.bool a, .bool b, E] ∧ BadV w' E e | .ok (s', la, em) => v = .tuple #[.bool la, .bool em, .nilIface] ∧ StepV base x rb Ar cr A w w' s') ∧ Keep (fp x rb A) w w') := by
  obtain ⟨F, hF⟩ : ∃ F, F = blockF s := ⟨_, rfl⟩
  rw [← hF]
  unfold blockF at hF
  have hf0 := hf
  obtain ⟨f1, f2, f3, f4, f5⟩ := hf
  have k1f : ∀ {w1 w2 : World}, Keep (fun k => k = rb) w1 w2 → Keep (fp x rb A) w1 w2 := fun k => k.mono fun _ _ h => .inr (.inl h)
  have noF : ∀ {w1 w2 : World}, Keep No w1 w2 → Keep (fp x rb A) w1 w2 := fun k => k.mono fun _ _ h => h.elim
  refine VC.of tt_ok Tryd.func19 rfl (by decide +kernel) (Nat.le_of_ble_eq_true rfl) ?_; (conv => whnf)
  refine (iTake_ok w h f1 (by omega) (n := 1) (by omega)).mono ?_
  rintro v w1 ⟨hv, k1⟩
  have kp := k1f k1
  by_cases g1 : 8 * s.l.length < s.at_ + 1
  · rw [if_neg (by omega)] at hv
    rw [if_pos g1] at hF
    obtain ⟨E, rfl, hE⟩ := hv
    obtain ⟨eb, he⟩ := hE.form
    subst he
    subst hF
    (conv => whnf)
    exact ⟨⟨_, _, _, rfl, hE⟩, kp⟩
  rw [if_pos (by omega)] at hv
  rw [if_neg g1] at hF
  obtain ⟨rfl, h1⟩ := hv
  (conv => whnf)
  refine (iTake_ok w1 h1 f1 (by dsimp only; omega) (n := 2) (by omega)).mono ?_
  rintro v w2 ⟨hv, k2⟩
  have kp := kp.trans (k1f k2)
  dsimp only at hv
  by_cases g2 : 8 * s.l.length < s.at_ + 3
  · rw [if_neg (by omega)] at hv
    rw [if_pos g2] at hF
    obtain ⟨E, rfl, hE⟩ := hv
    obtain ⟨eb, he⟩ := hE.form
    subst he
    subst hF
    (conv => whnf)
    exact ⟨⟨_, _, _, rfl, hE⟩, kp⟩
  rw [if_pos (by omega)] at hv
  rw [if_neg g2] at hF
  obtain ⟨rfl, h2⟩ := hv
  have h2 : InfV w2 base x rb Ar cr A c { s with at_ := s.at_ + 3 } := h2
  obtain ⟨B, hB⟩ : ∃ B, B = numL s.l s.at_ 1 := ⟨_, rfl⟩
  obtain ⟨K, hK⟩ : ∃ K, K = numL s.l (s.at_ + 1) 2 := ⟨_, rfl⟩
  have hK4 : K < 4 := by rw [hK]; exact numL_lt _ _ 2
  rw [← hB, ← hK] at hF
  rw [← hB, ← hK]
  have hsz := kp.size
  obtain ⟨la, hla⟩ : ∃ la : Bool, la = (B == 1) := ⟨_, rfl⟩
  rw [← hla] at hF
  (conv => whnf)
  refine VCmp.mk (fun g3 => ?_) (fun g3 => ?_) <;> (conv => whnf)
  · have hl1 : la = true := by rw [hla]; simp; omega
    subst hl1
    refine VCmp.mk (fun g4 => ?_) (fun g4 => ?_) <;> (conv => whnf)
    · rw [if_pos (by omega)] at hF
      refine (plain_ok w2 h2 (by omega) f1 (by dsimp only; omega) f3 (by dsimp only; omega) (by dsimp only; omega)).mono ?_
      rintro v w3 ⟨hv, k3⟩
      have kp := kp.trans k3
      cases hP : plainF { s with at_ := s.at_ + 3 } with
      | error e =>
        rw [hP] at hv hF
        obtain ⟨E, rfl, hE⟩ := hv
        subst hF
        (conv => whnf)
        exact ⟨⟨_, _, _, rfl, hE⟩, kp⟩
      | ok r =>
        obtain ⟨s', z⟩ := r
        rw [hP] at hv hF
        obtain ⟨rfl, A', c', h3, hat⟩ := hv
        subst hF
        (conv => whnf)
        exact ⟨⟨rfl, A', c', h3, fun a ha => (hat a ha).imp id (fun g => by omega)⟩, kp⟩
    rw [if_neg (by omega)] at hF
    refine VCmp.mk (fun g5 => ?_) (fun g5 => ?_) <;> (conv => whnf)
    · rw [if_neg (by omega), if_pos (by omega)] at hF
      have hf2 : Fine { s with at_ := s.at_ + 3 } := ⟨f1, by dsimp only; omega, f3, f4, f5⟩
      have hC := codes_ok w2 h2 hf2
      obtain ⟨G, hG⟩ : ∃ G, G = codesF { s with at_ := s.at_ + 3 } := ⟨_, rfl⟩
      rw [← hG] at hC hF
      refine hC.mono ?_
      rintro v w3 ⟨hv, k3⟩
      have kp := kp.trans (k1f k3)
      have k3_sz := k3.size
      cases G with
      | error e =>
        obtain ⟨E, rfl, hE⟩ := hv
        obtain ⟨eb, he⟩ := hE.form
        subst hF
        subst he
        (conv => whnf)
        exact ⟨⟨_, _, _, rfl, hE⟩, kp⟩
      | ok r =>
      obtain ⟨a, b, s1⟩ := r
      obtain ⟨t, td, rfl, ht, htd, h3⟩ := hv
      obtain ⟨z1, z2, z3, _, _, z4, z5, z6, z7, z8⟩ := codesF_fine hf2 hG.symm
      dsimp only at hF z4 z5 z6 z7 z8
      have hS := symbols_ok w3 h3 (by omega) (f := 8 * s.l.length + 1) z1 ht (tbOk_lens a (by omega)) htd (tbOk_lens b (by omega)) (by rw [z4]; omega)
      obtain ⟨G2, hG2⟩ : ∃ G2, G2 = symF (cntK a a.length) (ordA a 15) (cntK b b.length) (ordA b 15) (8 * s.l.length + 1) s1 := ⟨_, rfl⟩
      rw [← hG2] at hS hF
      (conv => whnf)
      refine VCmp.mk (fun g6 => absurd g6 (by omega)) (fun _ => ?_); (conv => whnf)
      refine hS.mono ?_
      rintro v w4 ⟨hv, k4⟩
      have kp := kp.trans k4
      cases G2 with
      | error e =>
        dsimp only at hF
        subst hF
        (conv => whnf)
        exact ⟨⟨_, _, v, rfl, hv⟩, kp⟩
      | ok s' =>
        obtain ⟨rfl, A', c', h4, hat⟩ := hv
        dsimp only at hF
        subst hF
        (conv => whnf)
        exact ⟨⟨rfl, A', c', h4, fun a ha => (hat a ha).imp id (fun g => by omega)⟩, kp⟩
    refine VCmp.mk (fun g6 => ?_) (fun g6 => ?_) <;> (conv => whnf)
    · rw [if_pos (by omega)] at hF
      refine VCmp.mk (fun _ => ?_) (fun g7 => absurd g6 g7); (conv => whnf)
      refine (fixedCodes_ok w2).mono ?_
      rintro v w3 ⟨⟨t, td, rfl, ht, htd⟩, k3⟩
      have kp := kp.trans (noF k3)
      have h3 := h2.keepNo k3
      have k3_sz := k3.size
      (conv => whnf)
      refine (symbols_ok w3 h3 (by omega) (f := 8 * s.l.length + 1) ⟨f1, by dsimp only; omega, f3, f4, f5⟩ ht fix_ok htd fixD_ok (by dsimp only; omega)).mono ?_
      rintro v w4 ⟨hv, k4⟩
      have kp := kp.trans k4
      cases hP : symF fixC fixO fixDC fixDO (8 * s.l.length + 1) { s with at_ := s.at_ + 3 } with
      | error e =>
        rw [hP] at hv hF
        subst hF
        (conv => whnf)
        exact ⟨⟨_, _, v, rfl, hv⟩, kp⟩
      | ok s' =>
        rw [hP] at hv hF
        obtain ⟨rfl, A', c', h4, hat⟩ := hv
        subst hF
        (conv => whnf)
        exact ⟨⟨rfl, A', c', h4, fun a ha => (hat a ha).imp id (fun g => by omega)⟩, kp⟩
    rw [if_neg (by omega), if_neg (by omega)] at hF
    subst hF
    refine (bad_ok w2 10 (by omega)).mono ?_
    rintro v w3 ⟨hE, k3⟩
    (conv => whnf)
    exact ⟨⟨_, _, v, rfl, hE⟩, kp.trans (noF k3)⟩
  have hl1 : la = false := by rw [hla]; simp; omega
  subst hl1
  refine VCmp.mk (fun g4 => ?_) (fun g4 => ?_) <;> (conv => whnf)
  · rw [if_pos (by omega)] at hF
    refine (plain_ok w2 h2 (by omega) f1 (by dsimp only; omega) f3 (by dsimp only; omega) (by dsimp only; omega)).mono ?_
    rintro v w3 ⟨hv, k3⟩
    have kp := kp.trans k3
    cases hP : plainF { s with at_ := s.at_ + 3 } with
    | error e =>
      rw [hP] at hv hF
      obtain ⟨E, rfl, hE⟩ := hv
      subst hF
      (conv => whnf)
      exact ⟨⟨_, _, _, rfl, hE⟩, kp⟩
    | ok r =>
      obtain ⟨s', z⟩ := r
      rw [hP] at hv hF
      obtain ⟨rfl, A', c', h3, hat⟩ := hv
      subst hF
      (conv => whnf)
      exact ⟨⟨rfl, A', c', h3, fun a ha => (hat a ha).imp id (fun g => by omega)⟩, kp⟩
  rw [if_neg (by omega)] at hF
  refine VCmp.mk (fun g5 => ?_) (fun g5 => ?_) <;> (conv => whnf)
  · rw [if_neg (by omega), if_pos (by omega)] at hF
    have hf2 : Fine { s with at_ := s.at_ + 3 } := ⟨f1, by dsimp only; omega, f3, f4, f5⟩
    have hC := codes_ok w2 h2 hf2
    obtain ⟨G, hG⟩ : ∃ G, G = codesF { s with at_ := s.at_ + 3 } := ⟨_, rfl⟩
    rw [← hG] at hC hF
    refine hC.mono ?_
    rintro v w3 ⟨hv, k3⟩
    have kp := kp.trans (k1f k3)
    have k3_sz := k3.size
    cases G with
    | error e =>
      obtain ⟨E, rfl, hE⟩ := hv
      obtain ⟨eb, he⟩ := hE.form
      subst hF
      subst he
      (conv => whnf)
      exact ⟨⟨_, _, _, rfl, hE⟩, kp⟩
    | ok r =>
    obtain ⟨a, b, s1⟩ := r
    obtain ⟨t, td, rfl, ht, htd, h3⟩ := hv
    obtain ⟨z1, z2, z3, _, _, z4, z5, z6, z7, z8⟩ := codesF_fine hf2 hG.symm
    dsimp only at hF z4 z5 z6 z7 z8
    have hS := symbols_ok w3 h3 (by omega) (f := 8 * s.l.length + 1) z1 ht (tbOk_lens a (by omega)) htd (tbOk_lens b (by omega)) (by rw [z4]; omega)
    obtain ⟨G2, hG2⟩ : ∃ G2, G2 = symF (cntK a a.length) (ordA a 15) (cntK b b.length) (ordA b 15) (8 * s.l.length + 1) s1 := ⟨_, rfl⟩
    rw [← hG2] at hS hF
    (conv => whnf)
    refine VCmp.mk (fun g6 => absurd g6 (by omega)) (fun _ => ?_); (conv => whnf)
    refine hS.mono ?_
    rintro v w4 ⟨hv, k4⟩
    have kp := kp.trans k4
    cases G2 with
    | error e =>
      dsimp only at hF
      subst hF
      (conv => whnf)
      exact ⟨⟨_, _, v, rfl, hv⟩, kp⟩
    | ok s' =>
      obtain ⟨rfl, A', c', h4, hat⟩ := hv
      dsimp only at hF
      subst hF
      (conv => whnf)
      exact ⟨⟨rfl, A', c', h4, fun a ha => (hat a ha).imp id (fun g => by omega)⟩, kp⟩
  refine VCmp.mk (fun g6 => ?_) (fun g6 => ?_) <;> (conv => whnf)
  · rw [if_pos (by omega)] at hF
    refine VCmp.mk (fun _ => ?_) (fun g7 => absurd g6 g7); (conv => whnf)
    refine (fixedCodes_ok w2).mono ?_
    rintro v w3 ⟨⟨t, td, rfl, ht, htd⟩, k3⟩
    have kp := kp.trans (noF k3)
    have h3 := h2.keepNo k3
    have k3_sz := k3.size
    (conv => whnf)
    refine (symbols_ok w3 h3 (by omega) (f := 8 * s.l.length + 1) ⟨f1, by dsimp only; omega, f3, f4, f5⟩ ht fix_ok htd fixD_ok (by dsimp only; omega)).mono ?_
    rintro v w4 ⟨hv, k4⟩
    have kp := kp.trans k4
    cases hP : symF fixC fixO fixDC fixDO (8 * s.l.length + 1) { s with at_ := s.at_ + 3 } with
    | error e =>
      rw [hP] at hv hF
      subst hF
      (conv => whnf)
      exact ⟨⟨_, _, v, rfl, hv⟩, kp⟩
    | ok s' =>
      rw [hP] at hv hF
      obtain ⟨rfl, A', c', h4, hat⟩ := hv
      subst hF
      (conv => whnf)
      exact ⟨⟨rfl, A', c', h4, fun a ha => (hat a ha).imp id (fun g => by omega)⟩, kp⟩
  rw [if_neg (by omega), if_neg (by omega)] at hF
  subst hF
  refine (bad_ok w2 10 (by omega)).mono ?_
  rintro v w3 ⟨hE, k3⟩
  (conv => whnf)
  exact ⟨⟨_, _, v, rfl, hE⟩, kp.trans (noF k3)⟩

theorem plainF_fine {s s' : IS} {z : Bool} (hf : Fine s) (h : plainF s = .ok (s', z)) : Fine s' ∧ s'.l = s.l ∧ s'.from_ = s.from_ ∧ s'.most = s.most ∧ s.at_ + 1 ≤ s'.at_ := by
  obtain ⟨f1, f2, f3, f4, f5⟩ := hf
  have hal : s.at_ ≤ alignP s.at_ ∧ alignP s.at_ % 8 = 0 := by unfold alignP; omega
  unfold plainF at h
  split at h
  · cases h
  split at h
  · cases h
  split at h
  · cases h
  split at h
  · split at h
    · cases h
    · obtain ⟨q1, q2⟩ := Prod.mk.inj (Except.ok.inj h)
      subst q1
      refine ⟨⟨f1, by dsimp only; omega, ?_, ?_, f5⟩, rfl, rfl, rfl, by dsimp only; omega⟩
      · dsimp only; rw [List.length_append]; omega
      · dsimp only; rw [List.length_append, List.length_drop, List.length_take]; omega
  · split at h
    · cases h
    · cases h
theorem blockF_fine {s s' : IS} {la em : Bool} (hf : Fine s) (h : blockF s = .ok (s', la, em)) : Fine s' ∧ s'.l = s.l ∧ s'.from_ = s.from_ ∧ s'.most = s.most ∧ s.at_ + 1 ≤ s'.at_ := by
  have hf0 := hf
  obtain ⟨f1, f2, f3, f4, f5⟩ := hf
  unfold blockF at h
  split at h
  · cases h
  split at h
  · cases h
  have hf3 : Fine { s with at_ := s.at_ + 3 } := ⟨f1, by dsimp only; omega, f3, f4, f5⟩
  split at h
  · cases hP : plainF { s with at_ := s.at_ + 3 } with
    | error e => rw [hP] at h; cases h
    | ok r =>
      obtain ⟨s1, z⟩ := r
      rw [hP] at h
      obtain ⟨q1, q2⟩ := Prod.mk.inj (Except.ok.inj h)
      subst q1
      obtain ⟨g1, g2, g3, g4, g5⟩ := plainF_fine hf3 hP
      exact ⟨g1, g2, g3, g4, by dsimp only at g5; omega⟩
  split at h
  · cases hP : symF fixC fixO fixDC fixDO (8 * s.l.length + 1) { s with at_ := s.at_ + 3 } with
    | error e => rw [hP] at h; cases h
    | ok s1 =>
      rw [hP] at h
      obtain ⟨q1, q2⟩ := Prod.mk.inj (Except.ok.inj h)
      subst q1
      obtain ⟨g1, g2, g3, g4, g5⟩ := symF_fine hf3 hP
      exact ⟨g1, g2, g3, g4, by dsimp only at g5; omega⟩
  split at h
  · cases hP : codesF { s with at_ := s.at_ + 3 } with
    | error e => rw [hP] at h; cases h
    | ok r =>
      obtain ⟨a, b, s1⟩ := r
      rw [hP] at h
      dsimp only at h
      obtain ⟨z1, _, _, _, _, z4, z5, z6, z7, z8⟩ := codesF_fine hf3 hP
      cases hP2 : symF (cntK a a.length) (ordA a 15) (cntK b b.length) (ordA b 15) (8 * s.l.length + 1) s1 with
      | error e => rw [hP2] at h; cases h
      | ok s2 =>
        rw [hP2] at h
        obtain ⟨q1, q2⟩ := Prod.mk.inj (Except.ok.inj h)
        subst q1
        obtain ⟨g1, g2, g3, g4, g5⟩ := symF_fine z1 hP2
        exact ⟨g1, by rw [g2, z4], by rw [g3, z6], by rw [g4, z7], by dsimp only at z8; omega⟩
  · cases h

theorem BadV.ne {w : World} {v : Value} {e : Nat} (h : BadV w v e) : e ≠ 0 := by
  rcases h.1 with ⟨h1, _⟩ | ⟨b, _, _, h3, _⟩
  · exact absurd h1 h.2
  · omega
def blocksF : Nat → IS → Except Nat IS
  | 0, _ => .error 0
  | f + 1, s => match blockF s with
    | .error e => .error e
    | .ok (s', la, _) => if la then .ok s' else blocksF f s'

set_option maxHeartbeats 2000000 in
theorem Blocks_ok (w : World) (hg : EtOk w) {A B : Option Addr} {n c m d : Nat} {b hist : List UInt8} (hb : Sl w 1 A n (b.map vb)) (hh : Sl w 1 B m (hist.map vb)) (hn : n ≤ 1000000) (hm : m ≤ 1000000) (hmd : m ≤ d) {most : Nat} (hmo : most ≤ 1000000) :
    VC Tryd.prog 9 [.slice A n c, .slice B m d, .int .i64 most] w
      (fun v w' => (match blocksF (8 * b.length + 1) (startS b hist most) with | .error e => v = .tuple #[.slice none 0 0, .int .i64 0, .int .i64 e] ∧ e ≠ 0 | .ok s' => ∃ A' c', v = .tuple #[.slice A' (s'.all.drop s'.from_).length c', .int .i64 ((s'.at_ + 7) / 8 : Nat), .int .i64 0] ∧ Own w' w.heap.size T8 1 A' (s'.all.drop s'.from_).length c' ((s'.all.drop s'.from_).map vb)) ∧ Keep No w w') := by
  have hbl : b.length = n := by simpa using hb.len
  have hhl : hist.length = m := by simpa using hh.len
  obtain ⟨F, hF⟩ : ∃ F, F = blocksF (8 * b.length + 1) (startS b hist most) := ⟨_, rfl⟩
  rw [← hF]
  refine VC.of tt_ok Tryd.func9 rfl (by decide +kernel) (Nat.le_of_ble_eq_true rfl) ?_; (conv => whnf)
  refine (start_ok w hb hh hn hm hmd most).mono ?_
  rintro v w1 ⟨⟨x, rb, Ar, cr, A1, c1, rfl, h1⟩, k1⟩
  have hf1 : Fine (startS b hist most) := by
    unfold startS Fine
    dsimp only
    rw [List.length_drop]
    exact ⟨by omega, by omega, Nat.le_refl _, by omega, by omega⟩
  (conv => whnf)
  refine VLoop.by_ tt_ok (S := Nat × IS × Option Addr × Nat) (fun | (f, s, Ak, ck) => [(0, .slice A n c), (9, .pointer (some ⟨x, 0, none⟩))])
    (fun | (f, s, Ak, ck) => fun w' => Fine s ∧ s.l = b ∧ 8 * b.length < s.at_ + f ∧ F = blocksF f s ∧ InfV w' w.heap.size x rb Ar cr Ak ck s ∧ Keep No w w') (fun | (f, _, _, _) => f)
    (8 * b.length + 1, startS b hist most, A1, c1) ⟨rfl, rfl, trivial⟩ ⟨hf1, rfl, by dsimp only [startS]; omega, hF, h1, k1⟩ ?_
  clear h1 hf1 hF k1
  rintro ⟨f, s, Ak, ck⟩ w2 ⟨hf, hsl, hfu, hF, h2, kp⟩
  have hf0 := hf
  obtain ⟨f1, f2, f3, f4, f5⟩ := hf
  obtain ⟨g, rfl⟩ : ∃ g, f = g + 1 := ⟨f - 1, by rw [hsl] at f2; omega⟩
  unfold blocksF at hF
  have hsz := kp.size
  have toNo : ∀ {w3 : World}, Keep (fp x rb Ak) w2 w3 → Keep No w w3 := fun k3 => kp.toNo k3 (fun i hi => by
    rcases hi with rfl | rfl | ⟨a, ha, rfl⟩
    · exact h2.2.2.2.1
    · exact h2.2.2.2.2.1
    · exact (h2.2.2.1.base_ ha).1)
  (conv => whnf)
  refine (block_ok w2 h2 (by omega) hf0).mono ?_
  rintro v w3 ⟨hv, k3⟩
  have kp3 := toNo k3
  cases hP : blockF s with
  | error e =>
    rw [hP] at hv hF
    obtain ⟨a, b', E, rfl, hE⟩ := hv
    obtain ⟨eb, he⟩ := hE.form
    subst hF
    subst he
    (conv => whnf)
    refine (number_ok w3 hE.1 (hg.keepNo kp3)).mono ?_
    rintro v w4 ⟨rfl, k4⟩
    (conv => whnf)
    exact ⟨⟨rfl, hE.ne⟩, kp3.trans k4⟩
  | ok r =>
    obtain ⟨s', la, em⟩ := r
    rw [hP] at hv hF
    obtain ⟨rfl, A', c', h3, hat⟩ := hv
    obtain ⟨hf3, e1, e2, e3, e4⟩ := blockF_fine hf0 hP
    cases la with
    | false =>
      (conv => whnf)
      exact ⟨(g, s', A', c'), ⟨rfl, rfl, trivial⟩, ⟨hf3, by rw [e1, hsl], by omega, hF, h3, kp3⟩, by dsimp only; omega⟩
    | true =>
      have hF : F = .ok s' := hF
      subst hF
      obtain ⟨q1, q2, q3, q4, q5⟩ := hf3
      have hlb : s'.l = b := by rw [e1, hsl]
      have hqd : (((8 * s'.l.length : Nat) : Int) - (s'.at_ : Int)).tdiv 8 = ((s'.l.length - (s'.at_ + 7) / 8 : Nat) : Int) := by rw [Int.tdiv_eq_ediv_of_nonneg (by omega)]; omega
      (conv => whnf)
      refine VDraw.by_ tt_ok rfl (.take 0 (.take 2 (.take 3 (.take 4 (.take 5 (.take 6 (.take 7 (.one 1 (.one 8 (.take 9 (.take 10 (.take 11 (.take 12 (.take 13 .done)))))))))))))) (by decide +kernel) _ (fun x h1 h2 h3 h4 => Keep.ofHeap h1 h2 h3 h4) (fun wd hd kd => ?_)
      have h4 := h3.keepNo kd
      (conv => whnf)
      refine VLoad.keep (h3.1.cell 0) ?_
      (conv => whnf)
      refine (told_ok wd h4 q3 (by omega)).mono ?_
      rintro v w5 ⟨A5, c5, rfl, ho5, k5⟩
      have h5 := h4.keepNo k5
      have kd_sz := kd.size
      (conv => whnf)
      refine VOwe.same (kd.trans k5) ?_
      (conv => whnf)
      refine (rdLeft_ok w5 h5.2.1 (by omega) (by omega)).mono ?_
      rintro v w6 ⟨rfl, k6⟩
      (conv => whnf)
      refine VOwe.same ((kd.trans k5).trans k6) ?_
      (conv => whnf)
      refine VReq.mk (by omega) ?_
      have hln : s'.l.length = n := by rw [hlb, hbl]
      rw [hqd]
      refine VRes.i64 (by omega) ?_; (conv => whnf)
      refine VRes.i64 (by omega) ?_; (conv => whnf)
      rw [show (n : Int) - ((s'.l.length - (s'.at_ + 7) / 8 : Nat) : Int) = (((s'.at_ + 7) / 8 : Nat) : Int) from by omega]
      exact ⟨⟨A5, c5, rfl, (ho5.mono (by have := kp3.size; omega)).keepNo k6⟩, ((kp3.trans kd).trans k5).trans k6⟩
end Go.Proofs.YtgmopcbfgcagaaaDoor
