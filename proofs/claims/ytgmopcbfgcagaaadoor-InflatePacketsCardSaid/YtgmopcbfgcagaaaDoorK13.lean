/-
  The document's inflate: a block.
-/
import Derived.Test.YtgmopcbfgcagaaaDoorK12
namespace Go.Proofs.YtgmopcbfgcagaaaDoor
open Go V

theorem plainF_z {s s' : IS} {z : Bool} (h : plainF s = .ok (s', z)) : z = true ↔ s'.all.length = s.all.length := by
  unfold plainF at h
  split at h
  · cases h
  split at h
  · cases h
  split at h
  · cases h
  split at h
  · split at h
    · cases h
    · rename_i g _
      obtain ⟨q1, q2⟩ := Prod.mk.inj (Except.ok.inj h)
      subst q1
      subst q2
      dsimp only
      rw [List.length_append, List.length_drop, List.length_take, beq_iff_eq]
      omega
  · split at h
    · cases h
    · cases h

structure BlR (base x bb : Nat) (Ab : Option Addr) (cb : Nat) (A : Option Addr) (w w' : World) (F : Except Nat (IS × Bool × Bool)) (v : Value) : Prop where
  ok : ∀ s' la em, F = .ok (s', la, em) → v = .tuple #[.bool la, .bool em] ∧ ∃ A' c', RfV w' base x bb Ab cb A' c' s' ∧ ∀ a, A' = some a → ownS A a.block ∨ w.heap.size ≤ a.block
  bad : ∀ e, F = .error e → (∃ a b, v = .tuple #[.bool a, .bool b]) ∧ RBad w' x e
theorem BlR.mkOk {base x bb : Nat} {Ab : Option Addr} {cb : Nat} {A : Option Addr} {w w' : World} {F : Except Nat (IS × Bool × Bool)} {v : Value} {s' : IS} {la em : Bool} (hF : F = .ok (s', la, em)) (h : ∃ A' c', RfV w' base x bb Ab cb A' c' s' ∧ ∀ a, A' = some a → ownS A a.block ∨ w.heap.size ≤ a.block) (hv : v = .tuple #[.bool la, .bool em]) : BlR base x bb Ab cb A w w' F v :=
  ⟨fun _ _ _ e => by rw [hF] at e; injection e with e; injection e with e1 e; injection e with e2 e3; subst e1; subst e2; subst e3; exact ⟨hv, h⟩, fun _ e => by rw [hF] at e; injection e⟩
theorem BlR.mkBad {base x bb : Nat} {Ab : Option Addr} {cb : Nat} {A : Option Addr} {w w' : World} {F : Except Nat (IS × Bool × Bool)} {v : Value} {e : Nat} (hF : F = .error e) (hv : ∃ a b, v = .tuple #[.bool a, .bool b]) (h : RBad w' x e) : BlR base x bb Ab cb A w w' F v :=
  ⟨fun _ _ _ e => by rw [hF] at e; injection e, fun _ e => by rw [hF] at e; injection e with e; subst e; exact ⟨hv, h⟩⟩

set_option maxRecDepth 100000 in
set_option maxHeartbeats 8000000 in
theorem rblock_ok (w : World) {base x bb : Nat} {Ab : Option Addr} {cb : Nat} {A : Option Addr} {c : Nat} {s : IS} (h : RfV w base x bb Ab cb A c s) (hb : base ≤ w.heap.size) (hf : Fine s) :
    VC Tryd.prog 26 [.pointer (some ⟨x, 0, none⟩)] w
      (fun v w' => BlR base x bb Ab cb A w w' (blockF s) v ∧ Keep (fpR x bb A) w w') := by
  obtain ⟨F, hF⟩ : ∃ F, F = blockF s := ⟨_, rfl⟩
  rw [← hF]
  unfold blockF at hF
  have hf0 := hf
  obtain ⟨f1, f2, f3, f4, f5⟩ := hf
  refine VC.of tt_ok Tryd.func26 rfl (by decide +kernel) (Nat.le_of_ble_eq_true rfl) ?_; (conv => whnf)
  refine (rbits2_ok w h f1 (by omega) (n := 1) (by omega)).mono ?_
  rintro v w1 ⟨hv, k1⟩
  unfold bitsF at hv
  by_cases g1 : 8 * s.l.length < s.at_ + 1
  · rw [if_neg (by omega)] at hv
    rw [if_pos g1] at hF
    obtain ⟨⟨z, rfl⟩, hbad⟩ := hv.bad _ rfl
    (conv => whnf)
    refine (rbitsBad_ok w1 hbad _).mono ?_
    rintro v w2 ⟨rfl, rfl⟩
    (conv => whnf)
    refine VLoad.by_ hbad.cell ?_
    (conv => whnf)
    refine VCmp.mk (fun _ => ?_) (fun h => absurd h (by omega)); (conv => whnf)
    exact ⟨.mkBad hF ⟨_, _, rfl⟩ hbad, fpB_R k1⟩
  rw [if_pos (by omega)] at hv
  rw [if_neg g1] at hF
  obtain ⟨rfl, h1⟩ := hv.ok _ _ rfl
  (conv => whnf)
  refine (rbits2_ok w1 h1 f1 (by dsimp only; omega) (n := 2) (by omega)).mono ?_
  rintro v w2 ⟨hv, k2⟩
  have kp := k1.trans k2
  unfold bitsF at hv
  dsimp only at hv
  by_cases g2 : 8 * s.l.length < s.at_ + 3
  · rw [if_neg (by omega)] at hv
    rw [if_pos g2] at hF
    obtain ⟨⟨z, rfl⟩, hbad⟩ := hv.bad _ rfl
    (conv => whnf)
    refine VLoad.by_ hbad.cell ?_
    (conv => whnf)
    refine VCmp.mk (fun _ => ?_) (fun h => absurd h (by omega)); (conv => whnf)
    exact ⟨.mkBad hF ⟨_, _, rfl⟩ hbad, fpB_R kp⟩
  rw [if_pos (by omega)] at hv
  rw [if_neg g2] at hF
  obtain ⟨rfl, h2⟩ := hv.ok _ _ rfl
  have h2 : RfV w2 base x bb Ab cb A c { s with at_ := s.at_ + 3 } := h2
  obtain ⟨B, hB⟩ : ∃ B, B = numL s.l s.at_ 1 := ⟨_, rfl⟩
  obtain ⟨K, hK⟩ : ∃ K, K = numL s.l (s.at_ + 1) 2 := ⟨_, rfl⟩
  have hK4 : K < 4 := by rw [hK]; exact numL_lt _ _ 2
  rw [← hB, ← hK] at hF
  rw [← hB, ← hK]
  have hsz := kp.size
  have hf3 : Fine { s with at_ := s.at_ + 3 } := ⟨f1, by dsimp only; omega, f3, f4, f5⟩
  obtain ⟨la, hla0⟩ : ∃ la : Bool, la = (B == 1) := ⟨_, rfl⟩
  rw [← hla0] at hF
  (conv => whnf)
  refine VLoad.by_ (h2.1.1.cell 4) ?_
  (conv => whnf)
  refine VCmp.mk (fun h => absurd rfl h) (fun _ => ?_); (conv => whnf)
  refine VLoad.by_ (h2.1.1.cell 1) ?_
  (conv => whnf)
  refine VCmp.mk (fun g4 => ?_) (fun g4 => ?_) <;> (conv => whnf)
  · have g4 : (K : Int) = 0 := g4
    rw [if_pos (by omega)] at hF
    refine (rstored_ok w2 h2 (by omega) hf3).mono ?_
    rintro v w3 ⟨⟨rfl, hv⟩, k3⟩
    have kp3 := (fpB_R (A := A) kp).trans k3
    unfold plainS at hv
    obtain ⟨G, hG⟩ : ∃ G, G = plainF { s with at_ := s.at_ + 3 } := ⟨_, rfl⟩
    rw [← hG] at hv hF
    (conv => whnf)
    cases G with
    | error e =>
      have hF : F = .error e := hF
      have hbad : RBad w3 x e := hv.bad _ rfl
      have hb0 := hbad
      obtain ⟨_, bp, bA, bn, bc, bf, bm, hbb⟩ := hb0
      refine VDraw.by_ tt_ok rfl (.take 0 (.take 1 (.take 2 (.take 3 (.take 4 (.take 5 (.take 6 (.take 7 (.take 8 (.take 9 (.take 10 (.take 11 (.take 12 (.take 13 (.take 14 .done))))))))))))))) (by decide +kernel) _ (fun x h1 h2 h3 h4 => Keep.ofHeap h1 h2 h3 h4) (fun wd hd kd => ?_)
      (conv => whnf)
      refine VCmp.mk (fun gl => ?_) (fun gl => ?_) <;> (conv => whnf)
      · refine VCmp.mk (fun _ => ?_) (fun h => absurd g4 h); (conv => whnf)
        refine VLoad.keep (hbb.cell 1) ?_
        (conv => whnf)
        refine VCmp.mk (fun ge => ?_) (fun ge => ?_) <;> (conv => whnf)
        · exact ⟨.mkBad hF ⟨_, _, rfl⟩ (hbad.keepNo kd), (kp3).trans (kd.mono fun _ _ h => h.elim)⟩
        · exact ⟨.mkBad hF ⟨_, _, rfl⟩ (hbad.keepNo kd), (kp3).trans (kd.mono fun _ _ h => h.elim)⟩
      · refine VCmp.mk (fun _ => ?_) (fun h => absurd g4 h); (conv => whnf)
        refine VLoad.keep (hbb.cell 1) ?_
        (conv => whnf)
        refine VCmp.mk (fun ge => ?_) (fun ge => ?_) <;> (conv => whnf)
        · exact ⟨.mkBad hF ⟨_, _, rfl⟩ (hbad.keepNo kd), (kp3).trans (kd.mono fun _ _ h => h.elim)⟩
        · exact ⟨.mkBad hF ⟨_, _, rfl⟩ (hbad.keepNo kd), (kp3).trans (kd.mono fun _ _ h => h.elim)⟩
    | ok t =>
    obtain ⟨s', z⟩ := t
    have hF : F = .ok (s', la, z) := hF
    obtain ⟨A3, c3, h3, hat3⟩ := hv.ok s' rfl
    have hz := plainF_z hG.symm
    dsimp only at hz
    have hat : ∀ a, A3 = some a → ownS A a.block ∨ w.heap.size ≤ a.block := fun a ha => (hat3 a ha).imp id (fun g => by omega)
    refine VDraw.by_ tt_ok rfl (.take 0 (.take 1 (.take 2 (.take 3 (.take 4 (.take 5 (.take 6 (.take 7 (.take 8 (.take 9 (.take 10 (.take 11 (.take 12 (.take 13 (.take 14 .done))))))))))))))) (by decide +kernel) _ (fun x h1 h2 h3 h4 => Keep.ofHeap h1 h2 h3 h4) (fun wd hd kd => ?_)
    (conv => whnf)
    refine VCmp.mk (fun gl => ?_) (fun gl => ?_) <;> (conv => whnf)
    · have gl : (B : Int) = 1 := gl
      have hla : la = true := by rw [hla0]; simp; omega
      refine VCmp.mk (fun _ => ?_) (fun h => absurd g4 h); (conv => whnf)
      refine VLoad.keep (h3.1.1.cell 1) ?_
      (conv => whnf)
      refine VCmp.mk (fun ge => ?_) (fun ge => ?_) <;> (conv => whnf)
      · have ge : ((s'.all.length : Nat) : Int) = (s.all.length : Int) := ge
        refine ⟨.mkOk (by rw [hF, hla, (hz.2 (by omega))]) ⟨_, _, h3.keepNo kd, hat⟩ rfl, (kp3).trans (kd.mono fun _ _ h => h.elim)⟩
      · have ge : ¬ ((s'.all.length : Nat) : Int) = (s.all.length : Int) := ge
        have hz0 : z = false := by
          cases z with
          | false => rfl
          | true => exact absurd (hz.1 rfl) (by omega)
        refine ⟨.mkOk (by rw [hF, hla, hz0]) ⟨_, _, h3.keepNo kd, hat⟩ rfl, (kp3).trans (kd.mono fun _ _ h => h.elim)⟩
    · have gl : ¬ (B : Int) = 1 := gl
      have hla : la = false := by rw [hla0]; simp; omega
      refine VCmp.mk (fun _ => ?_) (fun h => absurd g4 h); (conv => whnf)
      refine VLoad.keep (h3.1.1.cell 1) ?_
      (conv => whnf)
      refine VCmp.mk (fun ge => ?_) (fun ge => ?_) <;> (conv => whnf)
      · have ge : ((s'.all.length : Nat) : Int) = (s.all.length : Int) := ge
        refine ⟨.mkOk (by rw [hF, hla, (hz.2 (by omega))]) ⟨_, _, h3.keepNo kd, hat⟩ rfl, (kp3).trans (kd.mono fun _ _ h => h.elim)⟩
      · have ge : ¬ ((s'.all.length : Nat) : Int) = (s.all.length : Int) := ge
        have hz0 : z = false := by
          cases z with
          | false => rfl
          | true => exact absurd (hz.1 rfl) (by omega)
        refine ⟨.mkOk (by rw [hF, hla, hz0]) ⟨_, _, h3.keepNo kd, hat⟩ rfl, (kp3).trans (kd.mono fun _ _ h => h.elim)⟩
  have g4 : ¬ (K : Int) = 0 := g4
  rw [if_neg (by omega)] at hF
  refine VCmp.mk (fun g5 => ?_) (fun g5 => ?_) <;> (conv => whnf)
  · have g5 : (K : Int) = 1 := g5
    rw [if_pos (by omega), fix_sym] at hF
    refine (rfixed_ok w2).mono ?_
    rintro v w3 ⟨⟨t, td, rfl, ht, htd⟩, k3⟩
    have kp3 := kp.trans (no_B k3)
    have h3 := h2.keepNo k3
    have k3_sz := k3.size
    (conv => whnf)
    refine (rcoded_ok w3 h3 (by omega) (f := 8 * s.l.length + 1) hf3 ht fixL_ok htd fixDL_ok (by dsimp only; omega)).mono ?_
    rintro v w4 ⟨⟨rfl, hv⟩, k4⟩
    have kp4 := (fpB_R (A := A) kp3).trans k4
    obtain ⟨G, hG⟩ : ∃ G, G = symF (cntK fixL fixL.length) (ordA fixL 15) (cntK fixDL fixDL.length) (ordA fixDL 15) (8 * s.l.length + 1) { s with at_ := s.at_ + 3 } := ⟨_, rfl⟩
    rw [← hG] at hv hF
    (conv => whnf)
    cases G with
    | error e =>
      have hF : F = .error e := hF
      have hbad : RBad w4 x e := hv.bad _ rfl
      have hb0 := hbad
      obtain ⟨_, bp, bA, bn, bc, bf, bm, hbb⟩ := hb0
      refine VDraw.by_ tt_ok rfl (.take 0 (.take 1 (.take 2 (.take 3 (.take 4 (.take 5 (.take 6 (.take 7 (.take 8 (.take 9 (.take 10 (.take 11 (.take 12 (.take 13 (.take 14 .done))))))))))))))) (by decide +kernel) _ (fun x h1 h2 h3 h4 => Keep.ofHeap h1 h2 h3 h4) (fun wd hd kd => ?_)
      (conv => whnf)
      refine VCmp.mk (fun gl => ?_) (fun gl => ?_) <;> (conv => whnf)
      · refine VCmp.mk (fun h => absurd h g4) (fun _ => ?_); (conv => whnf)
        exact ⟨.mkBad hF ⟨_, _, rfl⟩ (hbad.keepNo kd), (kp4).trans (kd.mono fun _ _ h => h.elim)⟩
      · refine VCmp.mk (fun h => absurd h g4) (fun _ => ?_); (conv => whnf)
        exact ⟨.mkBad hF ⟨_, _, rfl⟩ (hbad.keepNo kd), (kp4).trans (kd.mono fun _ _ h => h.elim)⟩
    | ok s' =>
    have hF : F = .ok (s', la, false) := hF
    obtain ⟨A4, c4, h4, hat4⟩ := hv.ok s' rfl
    have hat : ∀ a, A4 = some a → ownS A a.block ∨ w.heap.size ≤ a.block := fun a ha => (hat4 a ha).imp id (fun g => by omega)
    refine VDraw.by_ tt_ok rfl (.take 0 (.take 1 (.take 2 (.take 3 (.take 4 (.take 5 (.take 6 (.take 7 (.take 8 (.take 9 (.take 10 (.take 11 (.take 12 (.take 13 (.take 14 .done))))))))))))))) (by decide +kernel) _ (fun x h1 h2 h3 h4 => Keep.ofHeap h1 h2 h3 h4) (fun wd hd kd => ?_)
    (conv => whnf)
    refine VCmp.mk (fun gl => ?_) (fun gl => ?_) <;> (conv => whnf)
    · have gl : (B : Int) = 1 := gl
      have hla : la = true := by rw [hla0]; simp; omega
      refine VCmp.mk (fun h => absurd h g4) (fun _ => ?_); (conv => whnf)
      exact ⟨.mkOk (by rw [hF, hla]) ⟨_, _, h4.keepNo kd, hat⟩ rfl, (kp4).trans (kd.mono fun _ _ h => h.elim)⟩
    · have gl : ¬ (B : Int) = 1 := gl
      have hla : la = false := by rw [hla0]; simp; omega
      refine VCmp.mk (fun h => absurd h g4) (fun _ => ?_); (conv => whnf)
      exact ⟨.mkOk (by rw [hF, hla]) ⟨_, _, h4.keepNo kd, hat⟩ rfl, (kp4).trans (kd.mono fun _ _ h => h.elim)⟩
  have g5 : ¬ (K : Int) = 1 := g5
  rw [if_neg (by omega)] at hF
  refine VCmp.mk (fun g6 => ?_) (fun g6 => ?_) <;> (conv => whnf)
  · have g6 : (K : Int) = 2 := g6
    rw [if_pos (by omega)] at hF
    have hD := rdynamic_ok w2 h2 hf3
    obtain ⟨G, hG⟩ : ∃ G, G = codesF { s with at_ := s.at_ + 3 } := ⟨_, rfl⟩
    rw [← hG] at hD hF
    refine hD.mono ?_
    rintro v w3 ⟨hv, k3⟩
    have kp3 := kp.trans k3
    have k3_sz := k3.size
    cases G with
    | error e =>
      have hF : F = .error e := hF
      obtain ⟨rfl, hbad⟩ := hv.bad _ rfl
      have he := hbad.1
      (conv => whnf)
      refine VLoad.by_ hbad.cell ?_
      (conv => whnf)
      refine VCmp.mk (fun h => absurd h (by omega)) (fun _ => ?_); (conv => whnf)
      have hb0 := hbad
      obtain ⟨_, bp, bA, bn, bc, bf, bm, hbb⟩ := hb0
      refine VDraw.by_ tt_ok rfl (.take 0 (.take 1 (.take 2 (.take 3 (.take 4 (.take 5 (.take 6 (.take 7 (.take 8 (.take 9 (.take 10 (.take 11 (.take 12 (.take 13 (.take 14 .done))))))))))))))) (by decide +kernel) _ (fun x h1 h2 h3 h4 => Keep.ofHeap h1 h2 h3 h4) (fun wd hd kd => ?_)
      (conv => whnf)
      refine VCmp.mk (fun gl => ?_) (fun gl => ?_) <;> (conv => whnf)
      · refine VCmp.mk (fun h => absurd h g4) (fun _ => ?_); (conv => whnf)
        exact ⟨.mkBad hF ⟨_, _, rfl⟩ (hbad.keepNo kd), (fpB_R (A := A) kp3).trans (kd.mono fun _ _ h => h.elim)⟩
      · refine VCmp.mk (fun h => absurd h g4) (fun _ => ?_); (conv => whnf)
        exact ⟨.mkBad hF ⟨_, _, rfl⟩ (hbad.keepNo kd), (fpB_R (A := A) kp3).trans (kd.mono fun _ _ h => h.elim)⟩
    | ok t =>
    obtain ⟨a, b, s1⟩ := t
    obtain ⟨t, td, rfl, ht, htd, hoka, hokb, h3⟩ := hv.ok _ _ _ rfl
    obtain ⟨z1, z2, z3, _, _, z4, z5, z6, z7, z8⟩ := codesF_fine hf3 hG.symm
    dsimp only at hF z4 z5 z6 z7 z8
    obtain ⟨G2, hG2⟩ : ∃ G2, G2 = symF (cntK a a.length) (ordA a 15) (cntK b b.length) (ordA b 15) (8 * s.l.length + 1) s1 := ⟨_, rfl⟩
    have hC := rcoded_ok w3 h3 (by omega) (f := 8 * s.l.length + 1) z1 ht hoka htd hokb (by rw [z4]; omega)
    rw [← hG2] at hF hC
    (conv => whnf)
    refine VLoad.by_ (h3.1.1.cell 4) ?_
    (conv => whnf)
    refine VCmp.mk (fun _ => ?_) (fun h => absurd rfl h); (conv => whnf)
    refine hC.mono ?_
    rintro v w4 ⟨⟨rfl, hv⟩, k4⟩
    have kp4 := (fpB_R (A := A) kp3).trans k4
    (conv => whnf)
    cases G2 with
    | error e =>
      have hF : F = .error e := hF
      have hbad : RBad w4 x e := hv.bad _ rfl
      have hb0 := hbad
      obtain ⟨_, bp, bA, bn, bc, bf, bm, hbb⟩ := hb0
      refine VDraw.by_ tt_ok rfl (.take 0 (.take 1 (.take 2 (.take 3 (.take 4 (.take 5 (.take 6 (.take 7 (.take 8 (.take 9 (.take 10 (.take 11 (.take 12 (.take 13 (.take 14 .done))))))))))))))) (by decide +kernel) _ (fun x h1 h2 h3 h4 => Keep.ofHeap h1 h2 h3 h4) (fun wd hd kd => ?_)
      (conv => whnf)
      refine VCmp.mk (fun gl => ?_) (fun gl => ?_) <;> (conv => whnf)
      · refine VCmp.mk (fun h => absurd h g4) (fun _ => ?_); (conv => whnf)
        exact ⟨.mkBad hF ⟨_, _, rfl⟩ (hbad.keepNo kd), (kp4).trans (kd.mono fun _ _ h => h.elim)⟩
      · refine VCmp.mk (fun h => absurd h g4) (fun _ => ?_); (conv => whnf)
        exact ⟨.mkBad hF ⟨_, _, rfl⟩ (hbad.keepNo kd), (kp4).trans (kd.mono fun _ _ h => h.elim)⟩
    | ok s' =>
    have hF : F = .ok (s', la, false) := hF
    obtain ⟨A4, c4, h4, hat4⟩ := hv.ok s' rfl
    have hat : ∀ a, A4 = some a → ownS A a.block ∨ w.heap.size ≤ a.block := fun a ha => (hat4 a ha).imp id (fun g => by omega)
    refine VDraw.by_ tt_ok rfl (.take 0 (.take 1 (.take 2 (.take 3 (.take 4 (.take 5 (.take 6 (.take 7 (.take 8 (.take 9 (.take 10 (.take 11 (.take 12 (.take 13 (.take 14 .done))))))))))))))) (by decide +kernel) _ (fun x h1 h2 h3 h4 => Keep.ofHeap h1 h2 h3 h4) (fun wd hd kd => ?_)
    (conv => whnf)
    refine VCmp.mk (fun gl => ?_) (fun gl => ?_) <;> (conv => whnf)
    · have gl : (B : Int) = 1 := gl
      have hla : la = true := by rw [hla0]; simp; omega
      refine VCmp.mk (fun h => absurd h g4) (fun _ => ?_); (conv => whnf)
      exact ⟨.mkOk (by rw [hF, hla]) ⟨_, _, h4.keepNo kd, hat⟩ rfl, (kp4).trans (kd.mono fun _ _ h => h.elim)⟩
    · have gl : ¬ (B : Int) = 1 := gl
      have hla : la = false := by rw [hla0]; simp; omega
      refine VCmp.mk (fun h => absurd h g4) (fun _ => ?_); (conv => whnf)
      exact ⟨.mkOk (by rw [hF, hla]) ⟨_, _, h4.keepNo kd, hat⟩ rfl, (kp4).trans (kd.mono fun _ _ h => h.elim)⟩
  have g6 : ¬ (K : Int) = 2 := g6
  rw [if_neg (by omega)] at hF
  refine (rfail2_ok w2 h2 (k := 10) (by decide)).mono ?_
  rintro v w3 ⟨rfl, hbad, k3⟩
  have kp3 : Keep (fpR x bb A) w w3 := (fpB_R (A := A) kp).trans (k3.mono fun _ _ h => .inl h)
  (conv => whnf)
  have hb0 := hbad
  obtain ⟨_, bp, bA, bn, bc, bf, bm, hbb⟩ := hb0
  refine VDraw.by_ tt_ok rfl (.take 0 (.take 1 (.take 2 (.take 3 (.take 4 (.take 5 (.take 6 (.take 7 (.take 8 (.take 9 (.take 10 (.take 11 (.take 12 (.take 13 (.take 14 .done))))))))))))))) (by decide +kernel) _ (fun x h1 h2 h3 h4 => Keep.ofHeap h1 h2 h3 h4) (fun wd hd kd => ?_)
  (conv => whnf)
  refine VCmp.mk (fun gl => ?_) (fun gl => ?_) <;> (conv => whnf)
  · refine VCmp.mk (fun h => absurd h g4) (fun _ => ?_); (conv => whnf)
    exact ⟨.mkBad hF ⟨_, _, rfl⟩ (hbad.keepNo kd), (kp3).trans (kd.mono fun _ _ h => h.elim)⟩
  · refine VCmp.mk (fun h => absurd h g4) (fun _ => ?_); (conv => whnf)
    exact ⟨.mkBad hF ⟨_, _, rfl⟩ (hbad.keepNo kd), (kp3).trans (kd.mono fun _ _ h => h.elim)⟩
end Go.Proofs.YtgmopcbfgcagaaaDoor
