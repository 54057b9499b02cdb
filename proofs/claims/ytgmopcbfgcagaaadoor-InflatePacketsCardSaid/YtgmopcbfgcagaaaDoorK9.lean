/-
  The document's inflate: symbols, to a block's end.
-/
import Derived.Test.YtgmopcbfgcagaaaDoorK8
namespace Go.Proofs.YtgmopcbfgcagaaaDoor
open Go V

theorem RBad.cell {w : World} {x e : Nat} (h : RBad w x e) : w.cell? ⟨x, 4, none⟩ = some (.int .i64 e) := by
  obtain ⟨_, p, A, n, c, f, m, hb⟩ := h
  exact hb.cell 4
theorem distN_fine {s s' : IS} {y b : Nat} (h2 : s.at_ ≤ 8 * s.l.length) (hy : y < 30) (h : distN s y = .ok (b, s')) : ∃ p, s' = { s with at_ := p } ∧ s.at_ ≤ p ∧ p ≤ 8 * s.l.length ∧ 1 ≤ b ∧ b ≤ 3000000 := by
  unfold distN at h
  by_cases g : y < 4
  · rw [if_pos g] at h
    injection h with h
    injection h with h1 h3
    subst h1
    subst h3
    exact ⟨s.at_, rfl, Nat.le_refl _, h2, by omega, by omega⟩
  · rw [if_neg g] at h
    by_cases g2 : 8 * s.l.length < s.at_ + (y / 2 - 1)
    · rw [if_pos g2] at h; injection h
    · rw [if_neg g2] at h
      have hp : 2 ^ (y / 2 - 1) ≤ 2 ^ 14 := Nat.pow_le_pow_right (by omega) (by omega)
      have hpm : (2 + y % 2) * 2 ^ (y / 2 - 1) ≤ 4 * 16384 := Nat.mul_le_mul (by omega) hp
      have hN := numL_small s.l s.at_ (y / 2 - 1) (by omega)
      injection h with h
      injection h with h1 h3
      subst h1
      subst h3
      exact ⟨s.at_ + (y / 2 - 1), rfl, by omega, by omega, by omega, by omega⟩
theorem lenF_fine2 {s s' : IS} {y n : Nat} (h2 : s.at_ ≤ 8 * s.l.length) (hy : 256 < y) (hy2 : y ≤ 285) (h : lenF s y = .ok (n, s')) : ∃ p, s' = { s with at_ := p } ∧ s.at_ ≤ p ∧ p ≤ 8 * s.l.length ∧ n ≤ 2000000 := by
  unfold lenF at h
  rw [if_neg (by omega)] at h
  by_cases g : y = 285
  · rw [if_pos g] at h
    injection h with h
    injection h with h1 h3
    subst h1
    subst h3
    exact ⟨s.at_, rfl, Nat.le_refl _, h2, by omega⟩
  rw [if_neg g] at h
  by_cases g2 : y < 265
  · rw [if_pos g2] at h
    injection h with h
    injection h with h1 h3
    subst h1
    subst h3
    exact ⟨s.at_, rfl, Nat.le_refl _, h2, by omega⟩
  rw [if_neg g2] at h
  by_cases g3 : 8 * s.l.length < s.at_ + (y - 261) / 4
  · rw [if_pos g3] at h; injection h
  · rw [if_neg g3] at h
    have hp : 2 ^ ((y - 261) / 4) ≤ 2 ^ 6 := Nat.pow_le_pow_right (by omega) (by omega)
    have hpm : (4 + (y - 265) % 4) * 2 ^ ((y - 261) / 4) ≤ 8 * 64 := Nat.mul_le_mul (by omega) hp
    have hN := numL_small s.l s.at_ ((y - 261) / 4) (by omega)
    injection h with h
    injection h with h1 h3
    subst h1
    subst h3
    exact ⟨s.at_ + (y - 261) / 4, rfl, by omega, by omega, by omega⟩

/-- A loop's state behind the document's reader: nothing wrong, or something. -/
structure CdV (base x bb : Nat) (Ab : Option Addr) (cb : Nat) (A : Option Addr) (lens lensD : List Nat) (t td : Nat) (F : Except Nat IS) (w w' : World) (f : Nat) (s : IS) (Ak : Option Addr) (ck e : Nat) : Prop where
  ok : e = 0 → Fine s ∧ 8 * s.l.length < s.at_ + f ∧ F = symF (cntK lens lens.length) (ordA lens 15) (cntK lensD lensD.length) (ordA lensD 15) f s ∧ RfV w' base x bb Ab cb Ak ck s ∧ TabV w' t lens (codesN lens) ∧ TabV w' td lensD (codesN lensD) ∧ (∀ a, Ak = some a → ownS A a.block ∨ w.heap.size ≤ a.block)
  bad : e ≠ 0 → F = .error e ∧ RBad w' x e
  kp : Keep (fpR x bb A) w w'
/-- A copy's. -/
structure CpV (base x bb : Nat) (Ab : Option Addr) (cb : Nat) (Ak : Option Addr) (lens lensD : List Nat) (F : Except Nat IS) (w w' : World) (g n : Nat) (bz : Int) (b : Nat) (s : IS) (i : Nat) (Ai : Option Addr) (ci e : Nat) : Prop where
  ok : e = 0 → bz = (b : Int) ∧ 1 ≤ b ∧ b ≤ s.all.length ∧ Fine s ∧ 8 * s.l.length < s.at_ + g ∧ i ≤ n ∧ n ≤ 2000000 ∧ F = (if s.most < s.all.length - s.from_ + n then .error 3 else symF (cntK lens lens.length) (ordA lens 15) (cntK lensD lensD.length) (ordA lensD 15) g { s with all := copyAll s.all b n }) ∧
    RfV w' base x bb Ab cb Ai ci { s with all := copyAll s.all b i } ∧ s.all.length - s.from_ + i ≤ s.most ∧ (∀ a, Ai = some a → ownS Ak a.block ∨ w.heap.size ≤ a.block)
  bad : e ≠ 0 → F = .error e ∧ RBad w' x e
  kp : Keep (fpR x bb Ak) w w'

set_option maxRecDepth 100000 in
set_option maxHeartbeats 4000000 in
theorem rcoded_ok (w : World) {base x bb : Nat} {Ab : Option Addr} {cb : Nat} {A : Option Addr} {c : Nat} {s : IS} (h : RfV w base x bb Ab cb A c s) (hb : base ≤ w.heap.size) {f : Nat} (hf : Fine s) {t td : Nat} {lens lensD : List Nat} (ht : TabV w t lens (codesN lens)) (hok : TabOk lens) (htd : TabV w td lensD (codesN lensD)) (hokd : TabOk lensD) (hfu : 8 * s.l.length < s.at_ + f) :
    VC Tryd.prog 42 [.pointer (some ⟨x, 0, none⟩), .pointer (some ⟨t, 0, none⟩), .pointer (some ⟨td, 0, none⟩)] w
      (fun v w' => (v = .tuple #[] ∧ RRes base x bb Ab cb A w w' (symF (cntK lens lens.length) (ordA lens 15) (cntK lensD lensD.length) (ordA lensD 15) f s)) ∧ Keep (fpR x bb A) w w') := by
  obtain ⟨F, hF⟩ : ∃ F, F = symF (cntK lens lens.length) (ordA lens 15) (cntK lensD lensD.length) (ordA lensD 15) f s := ⟨_, rfl⟩
  rw [← hF]
  refine VC.of tt_ok Tryd.func42 rfl (by decide +kernel) (Nat.le_of_ble_eq_true rfl) ?_; (conv => whnf)
  refine VLoop.by_ tt_ok (S := Nat × IS × Option Addr × Nat × Nat) (fun | (f, s, Ak, ck, e) => [(0, .pointer (some ⟨x, 0, none⟩)), (1, .pointer (some ⟨t, 0, none⟩)), (2, .pointer (some ⟨td, 0, none⟩))])
    (fun | (f, s, Ak, ck, e) => fun w' => CdV base x bb Ab cb A lens lensD t td F w w' f s Ak ck e) (fun | (f, s, Ak, ck, e) => if e = 0 then f + 1 else 0)
    (f, s, A, c, 0) ⟨rfl, rfl, rfl, trivial⟩ ⟨fun _ => ⟨hf, hfu, hF, h, ht, htd, fun a ha => .inl ⟨a, ha, rfl⟩⟩, fun h => absurd rfl h, Keep.refl _ _⟩ ?_
  clear hF h ht htd hf hfu
  rintro ⟨f, s, Ak, ck, e⟩ w1 ⟨h1, h2, kp⟩
  try dsimp only at h1 h2 kp
  by_cases he : e = 0
  rotate_left 1
  · obtain ⟨hF, hbad⟩ := h2 he
    (conv => whnf)
    refine VLoad.by_ hbad.cell ?_
    (conv => whnf)
    refine VCmp.mk (fun g => absurd g (by omega)) (fun _ => ?_); (conv => whnf)
    exact ⟨⟨rfl, by rw [hF]; exact .mkBad hbad⟩, kp⟩
  subst he
  obtain ⟨hf, hfu, hF, h, ht, htd, hat⟩ := h1 rfl
  clear h1 h2
  have hf0 := hf
  obtain ⟨f1, f2, f3, f4, f5⟩ := hf
  obtain ⟨g, rfl⟩ : ∃ g, f = g + 1 := ⟨f - 1, by omega⟩
  have hwsz := kp.size
  have lift : ∀ {w6 : World}, Keep (fpR x bb Ak) w1 w6 → Keep (fpR x bb A) w w6 := fun k => Keep.andThen kp k (fun i hi hT => by
    rcases hT with h | h | ⟨a, ha, e⟩
    · exact .inl h
    · exact .inr (.inl h)
    · rcases hat a ha with q | q
      · exact .inr (.inr (by rw [← e]; exact q))
      · omega)
  rw [symF_eq] at hF
  obtain ⟨G, hG⟩ : ∃ G, G = symN lens s := ⟨_, rfl⟩
  rw [← hG] at hF
  (conv => whnf)
  refine VLoad.by_ (h.1.1.cell 4) ?_
  (conv => whnf)
  refine VCmp.mk (fun _ => ?_) (fun h => absurd rfl h); (conv => whnf)
  refine (rsym_ok w1 h f1 (by omega) ht hok).mono ?_
  rintro v w2 ⟨hv, k2⟩
  rw [← hG] at hv
  cases G with
  | error e =>
    obtain ⟨⟨z, rfl⟩, hbad⟩ := hv.bad _ rfl
    have hF : F = .error e := hF
    have he := hbad.1
    (conv => whnf)
    refine VLoad.by_ hbad.cell ?_
    (conv => whnf)
    refine VCmp.mk (fun _ => ?_) (fun h => absurd h (by omega)); (conv => whnf)
    exact ⟨⟨rfl, by rw [hF]; exact .mkBad hbad⟩, lift (fpB_R k2)⟩
  | ok r =>
  obtain ⟨y, s1⟩ := r
  obtain ⟨rfl, h2⟩ := hv.ok _ _ rfl
  obtain ⟨p, rfl, p1, p2, hy⟩ := symN_fine hok.1 f2 hG.symm
  dsimp only at hF
  have hf2 : Fine { s with at_ := p } := ⟨f1, p2, f3, f4, f5⟩
  have hsz2 := k2.size
  (conv => whnf)
  refine VLoad.by_ (h2.1.1.cell 4) ?_
  (conv => whnf)
  refine VCmp.mk (fun h => absurd rfl h) (fun _ => ?_); (conv => whnf)
  refine VCmp.mk (fun g1 => ?_) (fun g1 => ?_) <;> (conv => whnf)
  · have g1 : (y : Int) = 256 := g1
    rw [if_pos (by omega)] at hF
    exact ⟨⟨rfl, by rw [hF]; exact .mkOk ⟨Ak, ck, h2, hat⟩⟩, lift (fpB_R k2)⟩
  have g1 : ¬ (y : Int) = 256 := g1
  rw [if_neg (by omega)] at hF
  refine VCmp.mk (fun g2 => ?_) (fun g2 => ?_) <;> (conv => whnf)
  · have g2 : (y : Int) < 256 := g2
    rw [if_neg (by omega)] at hF
    refine VRes.byte (N := y) rfl ?_
    (conv => whnf)
    refine (rput2_ok w2 h2 (by omega) f3 (by dsimp only; omega) (by dsimp only; omega) (UInt8.ofNat y)).mono ?_
    rintro v w3 ⟨⟨rfl, hv⟩, k3⟩
    dsimp only at hv
    have kk3 := (fpB_R k2).trans k3
    (conv => whnf)
    by_cases g3 : s.most < s.all.length - s.from_ + 1
    · rw [if_pos g3] at hv hF
      have hbad := hv.bad _ rfl
      exact ⟨(0, s, Ak, ck, 3), ⟨rfl, rfl, rfl, trivial⟩, ⟨fun h => absurd h (by decide), fun _ => ⟨hF, hbad⟩, lift kk3⟩, by dsimp only; rw [if_neg (by decide), if_pos rfl]; omega⟩
    · rw [if_neg g3] at hv hF
      obtain ⟨A', c', h3, hat3⟩ := hv.ok _ rfl
      refine ⟨(g, { s with at_ := p, all := s.all ++ [UInt8.ofNat y] }, A', c', 0), ⟨rfl, rfl, rfl, trivial⟩, ⟨fun _ => ⟨⟨f1, p2, by dsimp only; rw [List.length_append]; omega, by dsimp only; rw [List.length_append, List.length_singleton]; omega, f5⟩, by dsimp only; omega, hF, h3, ht.keepR h kk3, htd.keepR h kk3, fun a ha => ?_⟩, fun h => absurd rfl h, lift kk3⟩, by dsimp only; rw [if_pos rfl, if_pos rfl]; omega⟩
      rcases hat3 a ha with ⟨a0, h0, e0⟩ | q
      · rcases hat a0 h0 with q | q
        · exact .inl (by rw [← e0]; exact q)
        · exact .inr (by omega)
      · exact .inr (by omega)
  have g2 : ¬ (y : Int) < 256 := g2
  rw [if_pos (by omega)] at hF
  obtain ⟨G2, hG2⟩ : ∃ G2, G2 = copyN lensD { s with at_ := p } y := ⟨_, rfl⟩
  rw [← hG2] at hF
  unfold copyN at hG2
  refine VCmp.mk (fun g3 => ?_) (fun g3 => ?_) <;> (conv => whnf)
  · have g3 : (285 : Int) < (y : Int) := g3
    have e1 : lenF { s with at_ := p } y = .error 10 := by unfold lenF; rw [if_pos (by omega)]
    rw [e1] at hG2
    dsimp only at hG2
    subst hG2
    have hF : F = .error 10 := hF
    refine (rfail2_ok w2 h2 (k := 10) (by decide)).mono ?_
    rintro v w3 ⟨rfl, hbad, k3⟩
    (conv => whnf)
    exact ⟨⟨rfl, by rw [hF]; exact .mkBad hbad⟩, lift ((fpB_R k2).trans (k3.mono fun _ _ h => .inl h))⟩
  have g3 : ¬ (285 : Int) < (y : Int) := g3
  obtain ⟨G3, hG3⟩ : ∃ G3, G3 = lenF { s with at_ := p } y := ⟨_, rfl⟩
  rw [← hG3] at hG2
  refine (rlen_ok w2 h2 f1 (by dsimp only; omega) (y := y) (by omega) (by omega)).mono ?_
  rintro v w3 ⟨hv, k3⟩
  rw [← hG3] at hv
  have kk3 := k2.trans k3
  cases G3 with
  | error e =>
    obtain ⟨⟨z, rfl⟩, hbad⟩ := hv.bad _ rfl
    dsimp only at hG2
    subst hG2
    have hF : F = .error e := hF
    have he := hbad.1
    (conv => whnf)
    refine (rsymBad_ok w3 hbad _).mono ?_
    rintro v w4 ⟨rfl, rfl⟩
    (conv => whnf)
    refine VLoad.by_ hbad.cell ?_
    (conv => whnf)
    refine VCmp.mk (fun h => absurd h (by omega)) (fun _ => ?_); (conv => whnf)
    refine VLoad.by_ hbad.cell ?_
    (conv => whnf)
    refine VCmp.mk (fun _ => ?_) (fun h => absurd h (by omega)); (conv => whnf)
    exact ⟨⟨rfl, by rw [hF]; exact .mkBad hbad⟩, lift (fpB_R kk3)⟩
  | ok r =>
  obtain ⟨n, s2⟩ := r
  obtain ⟨rfl, h3⟩ := hv.ok _ _ rfl
  obtain ⟨p3, rfl, p31, p32, hn⟩ := lenF_fine2 (s := { s with at_ := p }) p2 (by omega) (by omega) hG3.symm
  dsimp only at hG2 p31 p32
  obtain ⟨G4, hG4⟩ : ∃ G4, G4 = symN lensD { s with at_ := p3 } := ⟨_, rfl⟩
  rw [← hG4] at hG2
  (conv => whnf)
  refine (rsym_ok w3 h3 f1 (by dsimp only; omega) (htd.keepR h (fpB_R kk3)) hokd).mono ?_
  rintro v w4 ⟨hv, k4⟩
  rw [← hG4] at hv
  have kk4 := kk3.trans k4
  cases G4 with
  | error e =>
    obtain ⟨⟨z, rfl⟩, hbad⟩ := hv.bad _ rfl
    dsimp only at hG2
    subst hG2
    have hF : F = .error e := hF
    have he := hbad.1
    (conv => whnf)
    refine VLoad.by_ hbad.cell ?_
    (conv => whnf)
    refine VCmp.mk (fun h => absurd h (by omega)) (fun _ => ?_); (conv => whnf)
    refine VLoad.by_ hbad.cell ?_
    (conv => whnf)
    refine VCmp.mk (fun _ => ?_) (fun h => absurd h (by omega)); (conv => whnf)
    exact ⟨⟨rfl, by rw [hF]; exact .mkBad hbad⟩, lift (fpB_R kk4)⟩
  | ok r =>
  obtain ⟨d, s3⟩ := r
  obtain ⟨rfl, h4⟩ := hv.ok _ _ rfl
  obtain ⟨p4, rfl, p41, p42, hd⟩ := symN_fine (s := { s with at_ := p3 }) hokd.1 p32 hG4.symm
  dsimp only at hG2 p41 p42
  (conv => whnf)
  refine VLoad.by_ (h4.1.1.cell 4) ?_
  (conv => whnf)
  refine VCmp.mk (fun _ => ?_) (fun h => absurd rfl h); (conv => whnf)
  refine VCmp.mk (fun g4 => ?_) (fun g4 => ?_) <;> (conv => whnf)
  · have g4 : (29 : Int) < (d : Int) := g4
    rw [if_pos (by omega)] at hG2
    subst hG2
    have hF : F = .error 10 := hF
    refine (rfail2_ok w4 h4 (k := 10) (by decide)).mono ?_
    rintro v w5 ⟨rfl, hbad, k5⟩
    (conv => whnf)
    refine VLoad.by_ hbad.cell ?_
    (conv => whnf)
    refine VCmp.mk (fun _ => ?_) (fun h => absurd h (by omega)); (conv => whnf)
    exact ⟨⟨rfl, by rw [hF]; exact .mkBad hbad⟩, lift ((fpB_R kk4).trans (k5.mono fun _ _ h => .inl h))⟩
  have g4 : ¬ (29 : Int) < (d : Int) := g4
  rw [if_neg (by omega)] at hG2
  refine VLoad.by_ (h4.1.1.cell 4) ?_
  (conv => whnf)
  refine VCmp.mk (fun h => absurd rfl h) (fun _ => ?_); (conv => whnf)
  obtain ⟨G5, hG5⟩ : ∃ G5, G5 = distN { s with at_ := p4 } d := ⟨_, rfl⟩
  rw [← hG5] at hG2
  apply withKey (T := fun N c0 Q => ∀ (fr : Fr) (w6 : World) (bz : Int) (b : Nat) (s4 : IS) (e : Nat), fhas fr [(0, .pointer (some ⟨x, 0, none⟩)), (1, .pointer (some ⟨t, 0, none⟩)), (2, .pointer (some ⟨td, 0, none⟩)), (7, .int .i64 n), (9, .int .i64 bz), (10, .int .i64 0)] →
    CpV base x bb Ab cb Ak lens lensD F w1 w6 g n bz b s4 0 Ak ck e → VLoop Tryd.prog tt N c0 Q fr w6)
  case use =>
    intro key
    refine (rdist_ok w4 h4 f1 (by dsimp only; omega) (y := d) (by omega)).mono ?_
    rintro v w5 ⟨hv, k5⟩
    rw [← hG5] at hv
    have kk5 := kk4.trans k5
    cases G5 with
    | error e =>
      obtain ⟨⟨z, rfl⟩, hbad⟩ := hv.bad _ rfl
      dsimp only at hG2
      subst hG2
      have hF : F = .error e := hF
      have he := hbad.1
      (conv => whnf)
      refine VLoad.by_ hbad.cell ?_
      (conv => whnf)
      refine VCmp.mk (fun h => absurd h (by omega)) (fun _ => ?_); (conv => whnf)
      exact key _ w5 z 0 s e ⟨rfl, rfl, rfl, rfl, rfl, rfl, trivial⟩ ⟨fun h => absurd h he, fun _ => ⟨hF, hbad⟩, fpB_R kk5⟩
    | ok r =>
    obtain ⟨b, s4⟩ := r
    obtain ⟨rfl, h5⟩ := hv.ok _ _ rfl
    obtain ⟨p5, rfl, p51, p52, hb1, hb2⟩ := distN_fine (s := { s with at_ := p4 }) p42 (by omega) hG5.symm
    dsimp only at hG2 p51 p52
    (conv => whnf)
    refine VLoad.by_ (h5.1.1.cell 4) ?_
    (conv => whnf)
    refine VCmp.mk (fun _ => ?_) (fun h => absurd rfl h); (conv => whnf)
    refine VLoad.by_ (h5.1.1.cell 1) ?_
    (conv => whnf)
    refine VCmp.mk (fun g5 => ?_) (fun g5 => ?_) <;> (conv => whnf)
    · have g5 : (s.all.length : Int) < (b : Int) := g5
      rw [if_pos (by omega)] at hG2
      subst hG2
      have hF : F = .error 10 := hF
      refine (rfail2_ok w5 h5 (k := 10) (by decide)).mono ?_
      rintro v w6 ⟨rfl, hbad, k6⟩
      (conv => whnf)
      exact key _ w6 b 0 s 10 ⟨rfl, rfl, rfl, rfl, rfl, rfl, trivial⟩ ⟨fun h => absurd h (by decide), fun _ => ⟨hF, hbad⟩, (fpB_R kk5).trans (k6.mono fun _ _ h => .inl h)⟩
    · have g5 : ¬ (s.all.length : Int) < (b : Int) := g5
      rw [if_neg (by omega)] at hG2
      refine key _ w5 b b { s with at_ := p5 } 0 ⟨rfl, rfl, rfl, rfl, rfl, rfl, trivial⟩ ⟨fun _ => ⟨rfl, hb1, by dsimp only; omega, ⟨f1, p52, f3, f4, f5⟩, by dsimp only; omega, Nat.zero_le _, hn, ?_, h5, by dsimp only; omega, fun a ha => .inl ⟨a, ha, rfl⟩⟩, fun h => absurd rfl h, fpB_R kk5⟩
      rw [hF, hG2]
      dsimp only
      by_cases g6 : s.most < s.all.length - s.from_ + n
      · rw [if_pos g6, if_pos g6]
      · rw [if_neg g6, if_neg g6]
  intro fr w6 bz b s4 e hfr hcp
  clear hF hG hG2 hG3 hG4 hG5 h2 h3 h4 kk3 kk4 k2 k3 k4 hf2 hsz2
  refine VLoop.sub hfr ?_
  refine VLoop.by_ tt_ok (S := Nat × Option Addr × Nat × Nat) (fun | (i, Ai, ci, e) => [(0, .pointer (some ⟨x, 0, none⟩)), (1, .pointer (some ⟨t, 0, none⟩)), (2, .pointer (some ⟨td, 0, none⟩)), (7, .int .i64 n), (9, .int .i64 bz), (10, .int .i64 i)])
    (fun | (i, Ai, ci, e) => fun w' => CpV base x bb Ab cb Ak lens lensD F w1 w' g n bz b s4 i Ai ci e) (fun | (i, Ai, ci, e) => if e = 0 then n - i + 1 else 0)
    (0, Ak, ck, e) ⟨rfl, rfl, rfl, rfl, rfl, rfl, trivial⟩ hcp ?_
  clear hcp hfr
  rintro ⟨i, Ai, ci, e⟩ w7 ⟨q1, q2, k7⟩
  try dsimp only at q1 q2 k7
  have k7_sz := k7.size
  by_cases he : e = 0
  rotate_left 1
  · obtain ⟨hF, hbad⟩ := q2 he
    (conv => whnf)
    refine VCmp.mk (fun gi => ?_) (fun gi => ?_) <;> (conv => whnf)
    · refine VLoad.by_ hbad.cell ?_
      (conv => whnf)
      refine VCmp.mk (fun g => absurd g (by omega)) (fun _ => ?_); (conv => whnf)
      exact ⟨(0, s, Ak, ck, e), ⟨rfl, rfl, rfl, trivial⟩, ⟨fun h => absurd h he, fun _ => ⟨hF, hbad⟩, lift k7⟩, by dsimp only; rw [if_neg he, if_pos rfl]; omega⟩
    · exact ⟨(0, s, Ak, ck, e), ⟨rfl, rfl, rfl, trivial⟩, ⟨fun h => absurd h he, fun _ => ⟨hF, hbad⟩, lift k7⟩, by dsimp only; rw [if_neg he, if_pos rfl]; omega⟩
  subst he
  obtain ⟨rfl, b1, b2, hf4, hfu4, hin, hn2, hF, h7, hro, hat7⟩ := q1 rfl
  clear q1 q2
  have hf40 := hf4
  obtain ⟨z1, z2, z3, z4, z5⟩ := hf4
  obtain ⟨L, hLL⟩ : ∃ L, L = copyAll s4.all b i := ⟨_, rfl⟩
  have hLl : L.length = s4.all.length + i := by rw [hLL, copyAll_len]
  (conv => whnf)
  refine VCmp.mk (fun gi => ?_) (fun gi => ?_) <;> (conv => whnf)
  rotate_left 1
  · obtain rfl : i = n := by omega
    rw [if_neg (by omega)] at hF
    rw [← hLL] at h7 hF
    refine ⟨(g, { s4 with all := L }, Ai, ci, 0), ⟨rfl, rfl, rfl, trivial⟩, ⟨fun _ => ⟨⟨z1, z2, by dsimp only; omega, by dsimp only; omega, z5⟩, hfu4, hF, h7, ht.keepR h k7, htd.keepR h k7, fun a ha => ?_⟩, fun h => absurd rfl h, lift k7⟩, by dsimp only; rw [if_pos rfl, if_pos rfl]; omega⟩
    rcases hat7 a ha with ⟨a0, h0, e0⟩ | q
    · rcases hat a0 h0 with q | q
      · exact .inl (by rw [← e0]; exact q)
      · exact .inr (by omega)
    · exact .inr (by omega)
  refine VLoad.by_ (h7.1.1.cell 4) ?_
  (conv => whnf)
  refine VCmp.mk (fun _ => ?_) (fun h => absurd rfl h); (conv => whnf)
  rw [← hLL] at h7
  have hsl := Sl.ofOwn h7.1.2.2.1
  dsimp only at hsl
  refine VDraw.by_ tt_ok rfl (.take 0 (.take 1 (.take 2 (.take 3 (.take 5 (.take 6 (.take 7 (.take 10 (.two 4 (.one 8 (.take 9 (.take 11 (.take 12 (.one 13 (.one 14 .done)))))) 8 (.take 9 (.take 11 (.one 4 (.take 12 (.one 13 (.one 14 .done)))))))))))))) ) (by decide +kernel) (fun _ => True) (fun _ _ _ _ _ => trivial) (fun wd hd kd => ?_)
  have hx1 : wd.cell? ⟨x, 1, none⟩ = some (.slice Ai L.length ci) := (h7.1.1.keepNo kd).cell 1
  (conv => whnf)
  refine ⟨?_, ?_⟩
  refine VLoad.by_ hx1 ?_
  (conv => whnf)
  refine VLoad.by_ hx1 ?_
  (conv => whnf)
  refine VRes.i64 (by omega) ?_; (conv => whnf)
  rotate_left 1
  refine VLoad.by_ hx1 ?_
  (conv => whnf)
  refine VRes.i64 (by omega) ?_; (conv => whnf)
  refine VLoad.by_ hx1 ?_
  (conv => whnf)
  all_goals
    refine VIdx.sl (hsl.keepNo kd) (L.length - b) (show ((L.length - b : Nat) : Int) = (L.length : Int) - (b : Int) by omega) (show L.length - b < L.length by omega) (fun b_ o_ hA_ hc_ => ?_)
    (conv => whnf)
    refine VLoad.by_ hc_ ?_
    (conv => whnf)
    refine (rput2_ok wd (h7.keepNo kd) (by have := kd.size; omega) (by dsimp only; omega) (by dsimp only; omega) (by dsimp only; omega) (L.getD (L.length - b) 0)).mono ?_
    rintro v w8 ⟨⟨rfl, hv⟩, k8⟩
    dsimp only at hv
    have k8 : Keep (fpR x bb Ak) w1 w8 := Keep.andThen (k7.trans (kd.mono fun _ _ h => h.elim)) k8 (fun i hi hT => by
      rcases hT with h | h | ⟨a, ha, e⟩
      · exact .inl h
      · exact .inr (.inl h)
      · rcases hat7 a ha with q | q
        · exact .inr (.inr (by rw [← e]; exact q))
        · omega)
    (conv => whnf)
    refine VOwe.same trivial ?_
    (conv => whnf)
    refine VRes.i64 (by omega) ?_; (conv => whnf)
    by_cases g9 : s4.most < L.length - s4.from_ + 1
    · rw [if_pos g9] at hv
      rw [if_pos (by omega)] at hF
      exact ⟨(i + 1, Ai, ci, 3), ⟨rfl, rfl, rfl, rfl, rfl, rfl, trivial⟩, ⟨fun h => absurd h (by decide), fun _ => ⟨hF, hv.bad _ rfl⟩, k8⟩, by dsimp only; rw [if_neg (by decide), if_pos rfl]; omega⟩
    · rw [if_neg g9] at hv
      obtain ⟨A', c', h8, hat8⟩ := hv.ok _ rfl
      have e8 : L ++ [L.getD (L.length - b) 0] = copyAll s4.all b (i + 1) := by rw [hLL]; rfl
      rw [e8] at h8
      refine ⟨(i + 1, A', c', 0), ⟨rfl, rfl, rfl, rfl, rfl, rfl, trivial⟩, ⟨fun _ => ⟨rfl, b1, b2, hf40, hfu4, by omega, hn2, hF, h8, by omega, fun a ha => ?_⟩, fun h => absurd rfl h, k8⟩, by dsimp only; rw [if_pos rfl, if_pos rfl]; omega⟩
      have hkd := kd.size
      rcases hat8 a ha with ⟨a0, h0, e0⟩ | q
      · rcases hat7 a0 h0 with q | q
        · exact .inl (by rw [← e0]; exact q)
        · exact .inr (by omega)
      · exact .inr (by omega)
end Go.Proofs.YtgmopcbfgcagaaaDoor
