/-
  The document's inflate: the tables of a dynamic block.
-/
import Derived.Test.YtgmopcbfgcagaaaDoorK11
namespace Go.Proofs.YtgmopcbfgcagaaaDoor
open Go V

theorem RMay.keepId {S : Nat → Prop} {w w' : World} {base x bb : Nat} {Ab : Option Addr} {cb : Nat} {A : Option Addr} {c : Nat} {s : IS} {e : Nat} (h : RMay w base x bb Ab cb A c s e) (k : Keep S w w') (hS : ∀ i, S i → Ty w i TId) : RMay w' base x bb Ab cb A c s e := by
  have hx : ¬ S x := fun q => h.tx.ne (hS _ q) (by decide) rfl
  refine ⟨fun he => ?_, fun he => ?_, h.tx.keep k hx, h.tb.keep k (fun q => h.tb.ne (hS _ q) (by decide) rfl)⟩
  · have h := h.ok he
    exact h.keep k hx (fun q => h.1.2.1.1.ty.ne (hS _ q) (by decide) rfl) (fun i ⟨a, ha, e⟩ q => (h.1.2.2.1.ty ha).ne (hS _ q) (by decide) e) (fun i ⟨a, ha, e⟩ q => (h.2 a ha).2.1.ne (hS _ q) (by decide) e)
  · obtain ⟨h1, p, A, n, c, f, m, h2⟩ := h.bad he
    exact ⟨h1, p, A, n, c, f, m, h2.keep k hx⟩
theorem RMay.keepNo {w w' : World} {base x bb : Nat} {Ab : Option Addr} {cb : Nat} {A : Option Addr} {c : Nat} {s : IS} {e : Nat} (h : RMay w base x bb Ab cb A c s e) (k : Keep No w w') : RMay w' base x bb Ab cb A c s e := h.keepId k (fun _ q => q.elim)
theorem RfV.keepId {S : Nat → Prop} {w w' : World} {base x bb : Nat} {Ab : Option Addr} {cb : Nat} {A : Option Addr} {c : Nat} {s : IS} (h : RfV w base x bb Ab cb A c s) (k : Keep S w w') (hS : ∀ i, S i → Ty w i TId) : RfV w' base x bb Ab cb A c s := ((RMay.ofOk h).keepId k hS).ok rfl
theorem RBad.keepId {S : Nat → Prop} {w w' : World} {x e : Nat} (h : RBad w x e) (k : Keep S w w') (hS : ∀ i, S i → Ty w i TId) : RBad w' x e := by
  have hx : ¬ S x := fun q => h.ty.ne (hS _ q) (by decide) rfl
  obtain ⟨h1, p, A, n, c, f, m, h2⟩ := h
  exact ⟨h1, p, A, n, c, f, m, h2.keep k hx⟩

theorem bitsM_fine (s : IS) (e n : Nat) : (bitsM s e n).2.2.l = s.l ∧ s.at_ ≤ (bitsM s e n).2.2.at_ ∧ (bitsM s e n).2.2.at_ ≤ s.at_ + n ∧ (bitsM s e n).1 < 2 ^ n ∧ ((bitsM s e n).2.1 ≠ 0 → (bitsM s e n).1 = 0) ∧ (e ≠ 0 → (bitsM s e n).2.1 = e) ∧
    (e = 0 → 8 * s.l.length < s.at_ + n → (bitsM s e n).2.1 = 2) ∧ (e = 0 → s.at_ + n ≤ 8 * s.l.length → bitsM s e n = (numL s.l s.at_ n, 0, { s with at_ := s.at_ + n })) := by
  unfold bitsM
  have hp : 0 < 2 ^ n := Nat.pow_pos (by omega)
  by_cases he : e ≠ 0
  · rw [if_pos he]
    exact ⟨rfl, Nat.le_refl _, Nat.le_add_right _ _, hp, fun _ => rfl, fun _ => rfl, fun h => absurd h he, fun h => absurd h he⟩
  rw [if_neg he]
  by_cases h : s.at_ + n ≤ 8 * s.l.length
  · rw [if_pos h]
    exact ⟨rfl, Nat.le_add_right _ _, Nat.le_refl _, numL_lt _ _ _, fun h => absurd rfl h, fun h => absurd h he, fun _ h2 => absurd h2 (by omega), fun _ _ => rfl⟩
  · rw [if_neg h]
    exact ⟨rfl, Nat.le_refl _, Nat.le_add_right _ _, hp, fun _ => rfl, fun h => absurd h he, fun _ _ => rfl, fun _ h2 => absurd h2 h⟩

/-- What a row of lengths comes to. -/
def rowT (p q : Nat) (X : Except Nat (List Nat × IS)) : Except Nat (List Nat × List Nat × IS) :=
  match X with
  | .error e => .error e
  | .ok (row, s') =>
    if wholeB (cntK (row.take p) p) = false then .error 10 else
    if row.getD 256 0 = 0 then .error 10 else
    if wholeB (cntK (row.drop p) q) = false then .error 10 else
    .ok (row.take p, row.drop p, s')
def codesR (s : IS) (p q r : Nat) : Except Nat (List Nat × List Nat × IS) :=
  if 8 * s.l.length < s.at_ + 14 + 3 * r then .error 2 else
  if wholeB (cntK (lensK s.l (s.at_ + 14) r) 19) = false then .error 10 else
  rowT p q (rowF (cntK (lensK s.l (s.at_ + 14) r) 19) (ordA (lensK s.l (s.at_ + 14) r) 15) (p + q) (p + q + 1) [] { s with at_ := s.at_ + 14 + 3 * r })
theorem codesF_eq (s : IS) : codesF s = (if 8 * s.l.length < s.at_ + 14 then .error 2 else if 286 < hdN s.l s.at_ 0 ∨ 30 < hdN s.l s.at_ 1 then .error 10 else codesR s (hdN s.l s.at_ 0) (hdN s.l s.at_ 1) (hdN s.l s.at_ 2)) := by
  unfold codesF headsF codesR rowT
  by_cases g : 8 * s.l.length < s.at_ + 14
  · rw [if_pos g, if_pos g]
  · rw [if_neg g, if_neg g]
    dsimp only
    generalize rowF _ _ _ _ _ _ = X
    cases X with
    | error e => rfl
    | ok t => rfl
/-- A row of lengths, step by step. -/
theorem rowF_eq (lens : List Nat) (want f : Nat) (r : List Nat) (s : IS) : rowF (cntK lens lens.length) (ordA lens 15) want (f + 1) r s = if want ≤ r.length then .ok (r, s) else
    match symN lens s with
    | .error e => .error e
    | .ok (y, s1) => match repF r y with
      | none => .error 10
      | some (v, n, b) => if 8 * s1.l.length < s1.at_ + b then .error 2 else
        if want - r.length < n + numL s1.l s1.at_ b then .error 10 else
        rowF (cntK lens lens.length) (ordA lens 15) want f (r ++ List.replicate (n + numL s1.l s1.at_ b) v) { s1 with at_ := s1.at_ + b } := by
  conv => lhs; unfold rowF
  unfold symN
  generalize takeF (cntK lens lens.length) (ordA lens 15) s.l s.at_ = T
  obtain ⟨y, er, p⟩ := T
  dsimp only
  by_cases g0 : want ≤ r.length
  · rw [if_pos g0, if_pos g0]
  rw [if_neg g0, if_neg g0]
  by_cases g : er ≠ 0
  · rw [if_pos g, if_pos g]
  · rw [if_neg g, if_neg g]
    dsimp only
    generalize repF r y = R
    cases R with
    | none => rfl
    | some t => rfl

theorem symN_lt {lens : List Nat} {s s' : IS} {y : Nat} (hl : 0 < lens.length) (h : symN lens s = .ok (y, s')) : y < lens.length := by
  have hsym := takeK_lt hl (cntK lens lens.length) (ordA lens 15) s.l (ordA_lt lens 15) 15 1 0 0 0 s.at_
  unfold symN at h
  unfold takeF at h
  generalize takeK (cntK lens lens.length) (ordA lens 15) s.l 15 1 0 0 0 s.at_ = T at h hsym
  obtain ⟨z, er, p⟩ := T
  dsimp only at h hsym
  by_cases g : er ≠ 0
  · rw [if_pos g] at h; injection h
  · rw [if_neg g] at h
    injection h with h
    injection h with h1 h2
    subst h1
    exact hsym

structure ClV (base x bb : Nat) (Ab : Option Addr) (cb : Nat) (A : Option Addr) (c : Nat) (F : Except Nat (List Nat × List Nat × IS)) (w w' : World) (s : IS) (p q r U M k e : Nat) : Prop where
  ok : e = 0 → p ≤ 286 ∧ q ≤ 30 ∧ s.at_ + 14 + 3 * k ≤ 8 * s.l.length ∧ F = codesR s p q r
  may : RMay w' base x bb Ab cb A c { s with at_ := s.at_ + 14 + 3 * k } e
  bad : e ≠ 0 → F = .error e
  cl : ∃ cs, Blk w' M TId cs ∧ cs.length = 19 ∧ (e = 0 → cs = (lensK s.l (s.at_ + 14) k).map nv)
  ord : Blk w' U TId (ordN.map nv)
  ne : U ≠ M
  new : w.heap.size ≤ M
  kp : Keep (fpB x bb) w w'
structure RwV (base x bb : Nat) (Ab : Option Addr) (cb : Nat) (A : Option Addr) (c : Nat) (F : Except Nat (List Nat × List Nat × IS)) (w w' : World) (p q : Nat) (lens : List Nat) (f : Nat) (r : List Nat) (sk : IS) (Al : Option Addr) (cl e : Nat) : Prop where
  ok : e = 0 → Fine sk ∧ p + q < f + r.length ∧ r.length ≤ p + q ∧ (∀ x ∈ r, x ≤ 15) ∧ F = rowT p q (rowF (cntK lens lens.length) (ordA lens 15) (p + q) f r sk) ∧ Own w' w.heap.size TId 1 Al r.length cl (r.map nv) ∧ RfV w' base x bb Ab cb A c sk
  bad : e ≠ 0 → F = .error e ∧ RBad w' x e
  kp : Keep (fpB x bb) w w'
structure RpV (base x bb : Nat) (Ab : Option Addr) (cb : Nat) (A : Option Addr) (c : Nat) (F : Except Nat (List Nat × List Nat × IS)) (w w' : World) (p q : Nat) (lens : List Nat) (f : Nat) (r : List Nat) (sk : IS) (vz nz : Int) (v N i : Nat) (Al : Option Addr) (cl e : Nat) : Prop where
  ok : e = 0 → vz = (v : Int) ∧ nz = (N : Int) ∧ i ≤ N ∧ 1 ≤ N ∧ v ≤ 15 ∧ r.length + N ≤ p + q ∧ Fine sk ∧ p + q < f + 1 + r.length ∧ (∀ x ∈ r, x ≤ 15) ∧ F = rowT p q (rowF (cntK lens lens.length) (ordA lens 15) (p + q) f (r ++ List.replicate N v) sk) ∧ Own w' w.heap.size TId 1 Al (r.length + i) cl ((r ++ List.replicate i v).map nv) ∧ RfV w' base x bb Ab cb A c sk
  bad : e ≠ 0 → F = .error e ∧ RBad w' x e
  kp : Keep (fpB x bb) w w'
structure DyV (base x bb : Nat) (Ab : Option Addr) (cb : Nat) (A : Option Addr) (c : Nat) (w' : World) (F : Except Nat (List Nat × List Nat × IS)) (v : Value) : Prop where
  ok : ∀ a b s', F = .ok (a, b, s') → ∃ t td, v = .tuple #[.pointer (some ⟨t, 0, none⟩), .pointer (some ⟨td, 0, none⟩)] ∧ TabV w' t a (codesN a) ∧ TabV w' td b (codesN b) ∧ TabOk a ∧ TabOk b ∧ RfV w' base x bb Ab cb A c s'
  bad : ∀ e, F = .error e → v = .tuple #[.pointer none, .pointer none] ∧ RBad w' x e
theorem DyV.mkBad {base x bb : Nat} {Ab : Option Addr} {cb : Nat} {A : Option Addr} {c : Nat} {w' : World} {F : Except Nat (List Nat × List Nat × IS)} {e : Nat} (hF : F = .error e) (h : RBad w' x e) : DyV base x bb Ab cb A c w' F (.tuple #[.pointer none, .pointer none]) :=
  ⟨fun _ _ _ h => by rw [hF] at h; injection h, fun _ h2 => by rw [hF] at h2; injection h2 with h2; subst h2; exact ⟨rfl, h⟩⟩

set_option maxRecDepth 100000 in
set_option maxHeartbeats 8000000 in
theorem rdynamic_ok (w : World) {base x bb : Nat} {Ab : Option Addr} {cb : Nat} {A : Option Addr} {c : Nat} {s : IS} (h : RfV w base x bb Ab cb A c s) (hf : Fine s) :
    VC Tryd.prog 43 [.pointer (some ⟨x, 0, none⟩)] w
      (fun v w' => DyV base x bb Ab cb A c w' (codesF s) v ∧ Keep (fpB x bb) w w') := by
  obtain ⟨F, hF⟩ : ∃ F, F = codesF s := ⟨_, rfl⟩
  rw [← hF]
  rw [codesF_eq] at hF
  obtain ⟨f1, f2, f3, f4, f5⟩ := hf
  obtain ⟨b11, b12, b13, b14, b15, b16, b17, b18⟩ := bitsM_fine s 0 5
  have hO1 : (bitsM s 0 5).2.1 = 0 ∧ s.at_ + 5 ≤ 8 * s.l.length ∨ (bitsM s 0 5).2.1 = 2 ∧ 8 * s.l.length < s.at_ + 5 := by
    rcases Nat.lt_or_ge (8 * s.l.length) (s.at_ + 5) with g | g
    · exact .inr ⟨b17 rfl g, g⟩
    · exact .inl ⟨by rw [b18 rfl g], g⟩
  obtain ⟨B1, hB1⟩ : ∃ B, B = bitsM s 0 5 := ⟨_, rfl⟩
  rw [← hB1] at b11 b12 b13 b14 b15 b18 hO1
  obtain ⟨n1, e1, s1⟩ := B1
  dsimp only at b11 b12 b13 b14 b15 b18 hO1
  obtain ⟨c11, c12, c13, c14, c15, c16, c17, c18⟩ := bitsM_fine s1 e1 5
  obtain ⟨B2, hB2⟩ : ∃ B, B = bitsM s1 e1 5 := ⟨_, rfl⟩
  rw [← hB2] at c11 c12 c13 c14 c15 c16 c17 c18
  obtain ⟨n2, e2, s2⟩ := B2
  dsimp only at c11 c12 c13 c14 c15 c16 c17 c18
  obtain ⟨d11, d12, d13, d14, d15, d16, d17, d18⟩ := bitsM_fine s2 e2 4
  obtain ⟨B3, hB3⟩ : ∃ B, B = bitsM s2 e2 4 := ⟨_, rfl⟩
  rw [← hB3] at d11 d12 d13 d14 d15 d16 d17 d18
  obtain ⟨n3, e3, s3⟩ := B3
  dsimp only at d11 d12 d13 d14 d15 d16 d17 d18
  have hall : (s.at_ + 14 ≤ 8 * s.l.length ∧ e3 = 0 ∧ n1 + 257 = hdN s.l s.at_ 0 ∧ n2 + 1 = hdN s.l s.at_ 1 ∧ n3 + 4 = hdN s.l s.at_ 2 ∧ s3 = { s with at_ := s.at_ + 14 + 3 * 0 }) ∨ (8 * s.l.length < s.at_ + 14 ∧ e3 = 2 ∧ n3 = 0) := by
    rcases Nat.lt_or_ge (8 * s.l.length) (s.at_ + 14) with g | g
    · refine .inr ⟨g, ?_⟩
      have e3v : e3 = 2 := by
        rcases hO1 with ⟨q1, q2⟩ | ⟨q1, q2⟩
        · have a1 : s1.at_ = s.at_ + 5 := by rw [(Prod.mk.inj (Prod.mk.inj (b18 rfl q2)).2).2]
          rcases Nat.lt_or_ge (8 * s1.l.length) (s1.at_ + 5) with g1 | g1
          · have := c17 q1 g1
            rw [d16 (by omega), this]
          · have q3 := c18 q1 g1
            have e2v : e2 = 0 := by rw [(Prod.mk.inj (Prod.mk.inj q3).2).1]
            have a2 : s2.at_ = s1.at_ + 5 := by rw [(Prod.mk.inj (Prod.mk.inj q3).2).2]
            exact d17 e2v (by rw [c11, b11, a2, a1]; omega)
        · have := c16 (by omega)
          rw [d16 (by omega), this, q1]
      exact ⟨e3v, d15 (by omega)⟩
    · refine .inl ⟨g, ?_⟩
      have q1 := b18 rfl (by omega)
      obtain ⟨r1, r2⟩ := Prod.mk.inj q1
      obtain ⟨r2, r3⟩ := Prod.mk.inj r2
      subst r1
      subst r2
      subst r3
      have q2 := c18 rfl (by dsimp only; omega)
      obtain ⟨r1, r2⟩ := Prod.mk.inj q2
      obtain ⟨r2, r3⟩ := Prod.mk.inj r2
      subst r1
      subst r2
      subst r3
      have q3 := d18 rfl (by dsimp only; omega)
      obtain ⟨r1, r2⟩ := Prod.mk.inj q3
      obtain ⟨r2, r3⟩ := Prod.mk.inj r2
      subst r1
      subst r2
      subst r3
      exact ⟨rfl, rfl, rfl, rfl, rfl⟩
  clear b15 b18 c15 c16 c17 c18 d15 d16 d17 d18 hO1
  have n1b : n1 < 32 := b14
  have n2b : n2 < 32 := c14
  have n3b : n3 < 16 := d14
  obtain ⟨p, hp⟩ : ∃ p, p = n1 + 257 := ⟨_, rfl⟩
  obtain ⟨q, hq⟩ : ∃ q, q = n2 + 1 := ⟨_, rfl⟩
  obtain ⟨r, hr⟩ : ∃ r, r = n3 + 4 := ⟨_, rfl⟩
  rw [← hp, ← hq, ← hr] at hall
  refine VC.of tt_ok Tryd.func43 rfl (by decide +kernel) (Nat.le_of_ble_eq_true rfl) ?_; (conv => whnf)
  refine (rbitsM_ok w (.ofOk h) f1 (by omega) (n := 5) (by omega)).mono ?_
  rintro v w1 ⟨⟨rfl, h1⟩, k1⟩
  rw [← hB1] at h1
  rw [← hB1]
  dsimp only at h1
  (conv => whnf)
  refine VRes.to (v' := .int .i64 (p : Nat)) (by rw [wrap_i64 (by omega)]; exact congrArg _ (by omega)) ?_
  (conv => whnf)
  refine (rbitsM_ok w1 h1 (by rw [b11]; exact f1) (by omega) (n := 5) (by omega)).mono ?_
  rintro v w2 ⟨⟨rfl, h2⟩, k2⟩
  rw [← hB2] at h2
  rw [← hB2]
  dsimp only at h2
  (conv => whnf)
  refine VRes.to (v' := .int .i64 (q : Nat)) (by rw [wrap_i64 (by omega)]; exact congrArg _ (by omega)) ?_
  (conv => whnf)
  refine (rbitsM_ok w2 h2 (by rw [c11, b11]; exact f1) (by omega) (n := 4) (by omega)).mono ?_
  rintro v w3 ⟨⟨rfl, h3⟩, k3⟩
  rw [← hB3] at h3
  rw [← hB3]
  dsimp only at h3
  (conv => whnf)
  refine VRes.to (v' := .int .i64 (r : Nat)) (by rw [wrap_i64 (by omega)]; exact congrArg _ (by omega)) ?_
  (conv => whnf)
  have kB3 := (k1.trans k2).trans k3
  clear h1 h2 k1 k2 k3 hB1 hB2 hB3
  apply withKey (T := fun N0 c0 Q => ∀ (fr : Fr) (w6 : World) (U M e : Nat), fhas fr [(0, .pointer (some ⟨x, 0, none⟩)), (4, .int .i64 p), (5, .int .i64 q), (6, .int .i64 r), (7, .slice (some ⟨U, 0, none⟩) 19 19), (8, .slice (some ⟨M, 0, none⟩) 19 19), (9, .int .i64 0)] →
    ClV base x bb Ab cb A c F w w6 s p q r U M 0 e → VLoop Tryd.prog tt N0 c0 Q fr w6)
  case use =>
    intro key
    refine VLoad.by_ h3.cell ?_
    (conv => whnf)
    rcases hall with ⟨a1, rfl, a3, a4, a5, rfl⟩ | ⟨a1, rfl, rfl⟩
    · rw [if_neg (by omega), ← a3, ← a4, ← a5] at hF
      refine VCmp.mk (fun _ => ?_) (fun h => absurd rfl h); (conv => whnf)
      have h3 := h3.ok rfl
      refine VCmp.mk (fun g1 => ?_) (fun g1 => ?_) <;> (conv => whnf)
      · rw [if_pos (.inl (by omega))] at hF
        refine (rfail2_ok w3 h3 (k := 10) (by decide)).mono ?_
        rintro v w4 ⟨rfl, hbad, k4⟩
        (conv => whnf)
        refine VFill.by_ rfl ?_; (conv => whnf)
        refine ⟨fun w5 hU k5 => ?_⟩
        (conv => whnf)
        refine VMake.row_ (n := 19) (z := nv 0) (bytes := 8) Tryd.underlying107 (by kernel_rfl) rfl (by omega) (by omega) ?_
        intro w6 hM k6
        have hU_lt := Blk.lt hU
        have hM : Blk w6 w5.heap.size TId ((lensK s.l (s.at_ + 14) 0).map nv) := by rw [lensK, List.map_replicate]; exact hM
        (conv => whnf)
        have kB := (kB3.trans (k4.mono fun _ _ h => Or.inl h)).size
        have k5_sz := k5.size
        exact key _ w6 w4.heap.size w5.heap.size 10 ⟨rfl, rfl, rfl, rfl, rfl, rfl, rfl, trivial⟩ ⟨fun h => absurd h (by decide), (RMay.ofBad hbad (h3.1.2.1.1.ty.keep k4 (fun e => h3.nexb e.symm))).keepNo (k5.trans k6), fun _ => hF, ⟨_, hM, by rw [List.length_map, lensK_len], fun _ => rfl⟩, hU.keepNo k6, by omega, by omega, (kB3.trans (k4.mono fun _ _ h => Or.inl h)).trans (no_B (k5.trans k6))⟩
      refine VCmp.mk (fun g2 => ?_) (fun g2 => ?_) <;> (conv => whnf)
      · rw [if_pos (.inr (by omega))] at hF
        refine (rfail2_ok w3 h3 (k := 10) (by decide)).mono ?_
        rintro v w4 ⟨rfl, hbad, k4⟩
        (conv => whnf)
        refine VFill.by_ rfl ?_; (conv => whnf)
        refine ⟨fun w5 hU k5 => ?_⟩
        (conv => whnf)
        refine VMake.row_ (n := 19) (z := nv 0) (bytes := 8) Tryd.underlying107 (by kernel_rfl) rfl (by omega) (by omega) ?_
        intro w6 hM k6
        have hU_lt := Blk.lt hU
        have hM : Blk w6 w5.heap.size TId ((lensK s.l (s.at_ + 14) 0).map nv) := by rw [lensK, List.map_replicate]; exact hM
        (conv => whnf)
        have kB := (kB3.trans (k4.mono fun _ _ h => Or.inl h)).size
        have k5_sz := k5.size
        exact key _ w6 w4.heap.size w5.heap.size 10 ⟨rfl, rfl, rfl, rfl, rfl, rfl, rfl, trivial⟩ ⟨fun h => absurd h (by decide), (RMay.ofBad hbad (h3.1.2.1.1.ty.keep k4 (fun e => h3.nexb e.symm))).keepNo (k5.trans k6), fun _ => hF, ⟨_, hM, by rw [List.length_map, lensK_len], fun _ => rfl⟩, hU.keepNo k6, by omega, by omega, (kB3.trans (k4.mono fun _ _ h => Or.inl h)).trans (no_B (k5.trans k6))⟩
      · rw [if_neg (by omega)] at hF
        refine VFill.by_ rfl ?_; (conv => whnf)
        refine ⟨fun w5 hU k5 => ?_⟩
        (conv => whnf)
        refine VMake.row_ (n := 19) (z := nv 0) (bytes := 8) Tryd.underlying107 (by kernel_rfl) rfl (by omega) (by omega) ?_
        intro w6 hM k6
        have hU_lt := Blk.lt hU
        have hM : Blk w6 w5.heap.size TId ((lensK s.l (s.at_ + 14) 0).map nv) := by rw [lensK, List.map_replicate]; exact hM
        (conv => whnf)
        have kB := (kB3).size
        have k5_sz := k5.size
        exact key _ w6 w3.heap.size w5.heap.size 0 ⟨rfl, rfl, rfl, rfl, rfl, rfl, rfl, trivial⟩ ⟨fun _ => ⟨by omega, by omega, by omega, hF⟩, ((RMay.ofOk h3)).keepNo (k5.trans k6), fun h => absurd rfl h, ⟨_, hM, by rw [List.length_map, lensK_len], fun _ => rfl⟩, hU.keepNo k6, by omega, by omega, (kB3).trans (no_B (k5.trans k6))⟩
    · rw [if_pos a1] at hF
      refine VCmp.mk (fun g => absurd g (by decide)) (fun _ => ?_); (conv => whnf)
      have h3 := RMay.ofBad (base := base) (bb := bb) (Ab := Ab) (cb := cb) (A := A) (c := c) (s := { s with at_ := s.at_ + 14 + 3 * 0 }) (h3.bad (by decide)) h3.tb
      refine VFill.by_ rfl ?_; (conv => whnf)
      refine ⟨fun w5 hU k5 => ?_⟩
      (conv => whnf)
      refine VMake.row_ (n := 19) (z := nv 0) (bytes := 8) Tryd.underlying107 (by kernel_rfl) rfl (by omega) (by omega) ?_
      intro w6 hM k6
      have hU_lt := Blk.lt hU
      have hM : Blk w6 w5.heap.size TId ((lensK s.l (s.at_ + 14) 0).map nv) := by rw [lensK, List.map_replicate]; exact hM
      (conv => whnf)
      have kB := (kB3).size
      have k5_sz := k5.size
      exact key _ w6 w3.heap.size w5.heap.size 2 ⟨rfl, rfl, rfl, rfl, rfl, rfl, rfl, trivial⟩ ⟨fun h => absurd h (by decide), (h3).keepNo (k5.trans k6), fun _ => hF, ⟨_, hM, by rw [List.length_map, lensK_len], fun _ => rfl⟩, hU.keepNo k6, by omega, by omega, (kB3).trans (no_B (k5.trans k6))⟩
  intro fr w6 U M e hfr hcl
  clear hF hall h3 kB3
  refine VLoop.sub hfr ?_
  refine VLoop.by_ tt_ok (S := Nat × Nat) (fun | (k, e) => [(0, .pointer (some ⟨x, 0, none⟩)), (4, .int .i64 p), (5, .int .i64 q), (6, .int .i64 r), (7, .slice (some ⟨U, 0, none⟩) 19 19), (8, .slice (some ⟨M, 0, none⟩) 19 19), (9, .int .i64 k)])
    (fun | (k, e) => fun w' => k ≤ r ∧ ClV base x bb Ab cb A c F w w' s p q r U M k e) (fun | (k, _) => r - k)
    (0, e) ⟨rfl, rfl, rfl, rfl, rfl, rfl, rfl, trivial⟩ ⟨Nat.zero_le _, hcl⟩ ?_
  clear hcl hfr
  rintro ⟨k, e⟩ w7 ⟨hkr, g1, hm, g2, ⟨cs, hM, hcs, hcs0⟩, hU, hne, hnew, kp⟩
  (conv => whnf)
  refine VCmp.mk (fun gk => ?_) (fun gk => ?_) <;> (conv => whnf)
  · have hUs : Sl w7 1 (some ⟨U, 0, none⟩) 19 (ordN.map nv) := Sl.ofBlk (n := 19) (size := 1) hU rfl
    have ho2 := ordN_lt (k := k) (by omega)
    have tyU : ¬ fpB x bb U := fun e => e.elim (fun e => hm.tx.ne hU.ty (by decide) e.symm) (fun e => hm.tb.ne hU.ty (by decide) e.symm)
    have tyM : ¬ fpB x bb M := fun e => e.elim (fun e => hm.tx.ne hM.ty (by decide) e.symm) (fun e => hm.tb.ne hM.ty (by decide) e.symm)
    have hat : s.at_ + 14 + 3 * k ≤ 100000000 := by omega
    refine VDraw.by_ tt_ok rfl (.take 0 (.take 1 (.take 2 (.take 3 (.take 4 (.take 5 (.one 6 (.take 7 (.one 8 .done))))))))) (by decide +kernel) (fun x_ => Keep (fpB x bb) w7 x_) (fun x_ h1 h2 h3 h4 => (Keep.ofHeap h1 h2 h3 h4).mono (fun _ _ h => h.elim)) (fun wd hd kd => ?_)
    (conv => whnf)
    refine VIdx.nv hUs k rfl (by omega) (fun b_ o_ hA_ hc_ => ?_)
    (conv => whnf)
    refine VLoad.by_ (fun z hz => hz.cell hc_ (by cases hA_; exact tyU)) ?_
    (conv => whnf)
    refine (rbitsM_ok wd (hm.keepNo kd) f1 (by dsimp only; exact hat) (n := 3) (by omega)).mono ?_
    rintro v w8 ⟨⟨rfl, hm8⟩, k8⟩
    have kdd : Keep (fpB x bb) w7 w8 := (no_B kd).trans k8
    obtain ⟨b21, b22, b23, b24, b25, b26, b27, b28⟩ := bitsM_fine { s with at_ := s.at_ + 14 + 3 * k } e 3
    obtain ⟨B, hB⟩ : ∃ B, B = bitsM { s with at_ := s.at_ + 14 + 3 * k } e 3 := ⟨_, rfl⟩
    rw [← hB] at hm8 b21 b22 b23 b24 b25 b26 b27 b28
    rw [← hB]
    obtain ⟨nb, eb, sb'⟩ := B
    dsimp only at hm8 b21 b22 b23 b24 b25 b26 b27 b28
    have hM8 := hM.keep kdd tyM
    have hU8 := hU.keep kdd tyU
    (conv => whnf)
    refine VOwe.same kdd ?_
    (conv => whnf)
    refine VIdx.one (ordN.getD k 0) rfl (by omega) rfl ?_
    (conv => whnf)
    refine VStore.one hM8 (by rw [hcs]; omega) ?_
    intro w9 hM9 k9 _
    rw [Nat.zero_add] at hM9
    have kM : ∀ i, i = M → Ty w8 i TId := fun i e => by subst e; exact hM8.ty
    have hm9 := hm8.keepId k9 kM
    (conv => whnf)
    refine VOwe.to (fun _ => True) (fun h => absurd h (by decide +kernel)) trivial ?_; (conv => whnf)
    refine VRes.i64 (by omega) ?_; (conv => whnf)
    refine ⟨(k + 1, eb), ⟨rfl, rfl, rfl, rfl, rfl, rfl, rfl, trivial⟩, ⟨by omega, ?_⟩, by dsimp only; omega⟩
    have kp9 : Keep (fpB x bb) w w9 := keep_new (kp.trans kdd) k9 (fun i e => by subst e; exact hnew)
    by_cases he : e = 0
    · subst he
      obtain ⟨z1, z2, z3, z4⟩ := g1 rfl
      rcases Nat.lt_or_ge (8 * s.l.length) (s.at_ + 14 + 3 * k + 3) with g | g
      · have e2 := b27 rfl g
        subst e2
        have hF2 : F = .error 2 := by rw [z4]; unfold codesR; rw [if_pos (by omega)]
        exact ⟨fun h => absurd h (by decide), .ofBad (hm9.bad (by decide)) hm9.tb, fun _ => hF2, ⟨_, hM9, by rw [List.length_set, hcs], fun h => absurd h (by decide)⟩, hU8.keep k9 hne, hne, hnew, kp9⟩
      · have q := b28 rfl g
        obtain ⟨r1, r2⟩ := Prod.mk.inj q
        obtain ⟨r2, r3⟩ := Prod.mk.inj r2
        subst r1
        subst r2
        subst r3
        exact ⟨fun _ => ⟨z1, z2, by omega, z4⟩, hm9, fun h => absurd rfl h, ⟨_, hM9, by rw [List.length_set, hcs], fun _ => by rw [hcs0 rfl, lensK, List.map_set]; rfl⟩, hU8.keep k9 hne, hne, hnew, kp9⟩
    · have e2 := b26 he
      subst e2
      exact ⟨fun h => absurd h he, .ofBad (hm9.bad he) hm9.tb, fun _ => g2 he, ⟨_, hM9, by rw [List.length_set, hcs], fun h => absurd h he⟩, hU8.keep k9 hne, hne, hnew, kp9⟩
  obtain rfl : k = r := by omega
  refine VLoad.by_ hm.cell ?_
  (conv => whnf)
  refine VCmp.mk (fun ge => ?_) (fun ge => ?_) <;> (conv => whnf)
  · have ge : (e : Int) ≠ 0 := ge
    exact ⟨.mkBad (g2 (by omega)) (hm.bad (by omega)), kp⟩
  have ge : ¬ (e : Int) ≠ 0 := ge
  obtain rfl : e = 0 := by omega
  obtain ⟨z1, z2, z3, hF⟩ := g1 rfl
  have h7 := hm.ok rfl
  clear g1 g2 hm
  rw [hcs0 rfl] at hM
  clear hcs0 hcs
  have hll := lensK_len s.l (s.at_ + 14) k
  unfold codesR at hF
  rw [if_neg (by omega)] at hF
  have hle15 := lensK_le s.l (s.at_ + 14) k
  obtain ⟨lens, hlens⟩ : ∃ lens, lens = lensK s.l (s.at_ + 14) k := ⟨_, rfl⟩
  rw [← hlens] at hM hF hll hle15
  refine (newTable_ok w7 (n := 19) (lens := lens) (Sl.ofBlk (n := 19) (size := 1) hM (by rw [List.length_map, hll])) (by omega) hle15).mono ?_
  rintro v w8 ⟨hv, k8⟩
  have kp8 := kp.trans (no_B k8)
  have h8 := h7.keepNo k8
  by_cases gw : wholeB (cntK lens 19) = true
  rotate_left 1
  · rw [if_neg gw] at hv
    rw [if_pos (by simpa using gw)] at hF
    subst hv
    (conv => whnf)
    refine VCmp.mk (fun _ => ?_) (fun h => absurd (by decide) h); (conv => whnf)
    refine (rfail2_ok w8 h8 (k := 10) (by decide)).mono ?_
    rintro v w9 ⟨rfl, hbad, k9⟩
    (conv => whnf)
    exact ⟨.mkBad hF hbad, kp8.trans (k9.mono fun _ _ h => .inl h)⟩
  rw [if_pos gw] at hv
  rw [if_neg (by rw [gw]; decide)] at hF
  obtain ⟨tc, rfl, htc⟩ := hv
  have hokc : TabOk lens := ⟨by omega, hle15, by rw [hll]; exact gw⟩
  have hF : F = rowT p q (rowF (cntK lens lens.length) (ordA lens 15) (p + q) (p + q + 1) [] { s with at_ := s.at_ + 14 + 3 * k }) := by rw [hll]; exact hF
  (conv => whnf)
  refine VCmp.mk (fun h => absurd rfl h) (fun _ => ?_); (conv => whnf)
  clear hM hU hne hnew
  have kR0 : RwV base x bb Ab cb A c F w8 w8 p q lens (p + q + 1) [] { s with at_ := s.at_ + 14 + 3 * k } none 0 0 := ⟨fun _ => ⟨⟨f1, z3, f3, f4, f5⟩, by simp, by simp, (fun x hx => by cases hx), hF, Own.nil _ _ _ _, h8⟩, fun h => absurd rfl h, Keep.refl _ _⟩
  clear hF h7
  refine VLoop.by_ tt_ok (S := Nat × List Nat × IS × Option Addr × Nat × Nat) (fun | (f, rr, sk, Al, cl, e) => [(0, .pointer (some ⟨x, 0, none⟩)), (4, .int .i64 p), (5, .int .i64 q), (10, .pointer (some ⟨tc, 0, none⟩)), (12, .slice Al rr.length cl)])
    (fun | (f, rr, sk, Al, cl, e) => fun w' => RwV base x bb Ab cb A c F w8 w' p q lens f rr sk Al cl e) (fun | (f, rr, sk, Al, cl, e) => if e = 0 then f + 1 else 0)
    (p + q + 1, [], { s with at_ := s.at_ + 14 + 3 * k }, none, 0, 0) ⟨rfl, rfl, rfl, rfl, rfl, trivial⟩ kR0 ?_
  clear kR0
  rintro ⟨f, rr, sk, Al, cl, e⟩ w3 ⟨q1, q2, kp3⟩
  have kp3_sz := kp3.size
  by_cases he : e = 0
  rotate_left 1
  · obtain ⟨hF, hbad⟩ := q2 he
    (conv => whnf)
    refine VRes.i64 (by omega) ?_; (conv => whnf)
    refine VCmp.mk (fun g => ?_) (fun g => ?_) <;> (conv => whnf)
    · refine VLoad.by_ hbad.cell ?_
      (conv => whnf)
      refine VCmp.mk (fun g => absurd g (by omega)) (fun _ => ?_); (conv => whnf)
      refine VLoad.by_ hbad.cell ?_
      (conv => whnf)
      refine VCmp.mk (fun _ => ?_) (fun h => absurd h (by omega)); (conv => whnf)
      exact ⟨.mkBad hF hbad, kp8.trans kp3⟩
    · refine VLoad.by_ hbad.cell ?_
      (conv => whnf)
      refine VCmp.mk (fun _ => ?_) (fun h => absurd h (by omega)); (conv => whnf)
      exact ⟨.mkBad hF hbad, kp8.trans kp3⟩
  subst he
  obtain ⟨hfk, hfu, hrw, hr15, hF, ho, h3⟩ := q1 rfl
  clear q1 q2
  have hfk0 := hfk
  obtain ⟨z1, z2, z3, z4, z5⟩ := hfk
  obtain ⟨g, rfl⟩ : ∃ g, f = g + 1 := ⟨f - 1, by omega⟩
  rw [rowF_eq] at hF
  have hAlB : ∀ a, Al = some a → ¬ fpB x bb a.block := fun a ha e => e.elim (fun e => (ho.ty ha).ne h3.1.1.ty (by decide) e) (fun e => (ho.ty ha).ne h3.1.2.1.1.ty (by decide) e)
  (conv => whnf)
  refine VRes.i64 (by omega) ?_; (conv => whnf)
  refine VCmp.mk (fun g0 => ?_) (fun g0 => ?_) <;> (conv => whnf)
  rotate_left 1
  · rw [if_pos (by omega)] at hF
    refine VLoad.by_ (h3.1.1.cell 4) ?_
    (conv => whnf)
    refine VCmp.mk (fun h => absurd rfl h) (fun _ => ?_); (conv => whnf)
    have hrl : rr.length = p + q := by omega
    have hF : F = if wholeB (cntK (rr.take p) p) = false then .error 10 else if rr.getD 256 0 = 0 then .error 10 else if wholeB (cntK (rr.drop p) q) = false then .error 10 else .ok (rr.take p, rr.drop p, sk) := hF
    have hcR := ho.le
    have hsR := Sl.ofOwn ho
    refine VCut.by_ 0 p rfl rfl (by omega) (by omega) ?_
    intro A9 hA9
    have hs9 := Sl.cutN hsR (l := 0) (h := p) (by omega) (by omega) hcR (A' := A9) hA9
    rw [List.drop_zero, Nat.sub_zero] at hs9
    rw [Nat.sub_zero]
    have hpl : (rr.take p).length = p := by rw [List.length_take]; omega
    have hql : (rr.drop p).length = q := by rw [List.length_drop]; omega
    (conv => whnf)
    refine (newTable_ok w3 (lens := rr.take p) hs9 (by omega) (fun x hx => hr15 x (List.mem_of_mem_take hx))).mono ?_
    rintro v w9 ⟨hv, k9⟩
    have h9 := h3.keepNo k9
    have hsR9 := hsR.keepNo k9
    have cut2 : ∀ {A10 : Option Addr}, A10 = (if cl = p then Al else Al.map (·.add (p * 1))) → Sl w9 1 A10 q ((rr.drop p).map nv) := fun {A10} hA10 => by
      have hs10 := Sl.cutN hsR9 (l := p) (h := rr.length) (by omega) (Nat.le_refl _) hcR (A' := A10) hA10
      rw [List.take_length, show rr.length - p = q from by omega] at hs10
      exact hs10
    by_cases gw1 : wholeB (cntK (rr.take p) p) = true
    rotate_left 1
    · rw [if_neg gw1] at hv
      rw [if_pos (by simpa using gw1)] at hF
      subst hv
      (conv => whnf)
      refine VReq.mk hcR ?_
      refine VCut.by_ p rr.length rfl rfl (by omega) hcR ?_
      intro A10 hA10
      rw [show rr.length - p = q from by omega]
      (conv => whnf)
      refine (newTable_ok w9 (lens := rr.drop p) (cut2 hA10) (by omega) (fun x hx => hr15 x (List.mem_of_mem_drop hx))).mono ?_
      rintro v w10 ⟨hv, k10⟩
      have h10 := h9.keepNo k10
      obtain ⟨v2, e2, rfl⟩ : ∃ v2 e2, v = .tuple #[v2, .int .i64 e2] := by
        split at hv
        · obtain ⟨t2, rfl, _⟩ := hv
          exact ⟨_, _, rfl⟩
        · exact ⟨_, _, hv⟩
      (conv => whnf)
      refine VCmp.mk (fun _ => ?_) (fun h => absurd (by decide) h); (conv => whnf)
      refine (rfail2_ok w10 h10 (k := 10) (by decide)).mono ?_
      rintro v wz ⟨rfl, hbad, kz⟩
      (conv => whnf)
      exact ⟨.mkBad hF hbad, ((kp8.trans kp3).trans (no_B (k9.trans k10))).trans (kz.mono fun _ _ h => .inl h)⟩
    rw [if_pos gw1] at hv
    rw [if_neg (by rw [gw1]; decide)] at hF
    obtain ⟨t1, rfl, ht1⟩ := hv
    (conv => whnf)
    refine VReq.mk hcR ?_
    refine VCut.by_ p rr.length rfl rfl (by omega) hcR ?_
    intro A10 hA10
    rw [show rr.length - p = q from by omega]
    (conv => whnf)
    refine (newTable_ok w9 (lens := rr.drop p) (cut2 hA10) (by omega) (fun x hx => hr15 x (List.mem_of_mem_drop hx))).mono ?_
    rintro v w10 ⟨hv, k10⟩
    have h10 := h9.keepNo k10
    have hsR10 := hsR9.keepNo k10
    have kp10 := (kp8.trans kp3).trans (no_B (k9.trans k10))
    have hr256 : rr.getD 256 0 ≤ 15 := getD_le15 hr15 256
    by_cases gw2 : wholeB (cntK (rr.drop p) q) = true
    rotate_left 1
    · rw [if_neg gw2] at hv
      rw [if_pos (show wholeB (cntK (rr.drop p) q) = false by simpa using gw2)] at hF
      have hF : F = .error 10 := by rw [hF]; split <;> rfl
      subst hv
      (conv => whnf)
      refine VCmp.mk (fun h => absurd rfl h) (fun _ => ?_); (conv => whnf)
      refine VIdx.nv hsR10 256 rfl (by omega) (fun b_ o_ hA_ hc_ => ?_)
      (conv => whnf)
      refine VLoad.by_ hc_ ?_
      (conv => whnf)
      refine VCmp.mk (fun g6 => ?_) (fun g6 => ?_) <;> (conv => whnf)
      · refine (rfail2_ok w10 h10 (k := 10) (by decide)).mono ?_
        rintro v wz ⟨rfl, hbad, kz⟩
        (conv => whnf)
        exact ⟨.mkBad hF hbad, (kp10).trans (kz.mono fun _ _ h => .inl h)⟩
      · refine VCmp.mk (fun _ => ?_) (fun h => absurd (by decide) h); (conv => whnf)
        refine (rfail2_ok w10 h10 (k := 10) (by decide)).mono ?_
        rintro v wz ⟨rfl, hbad, kz⟩
        (conv => whnf)
        exact ⟨.mkBad hF hbad, (kp10).trans (kz.mono fun _ _ h => .inl h)⟩
    rw [if_pos gw2] at hv
    rw [if_neg (show ¬ wholeB (cntK (rr.drop p) q) = false by rw [gw2]; decide)] at hF
    obtain ⟨t2, rfl, ht2⟩ := hv
    (conv => whnf)
    refine VCmp.mk (fun h => absurd rfl h) (fun _ => ?_); (conv => whnf)
    refine VIdx.nv hsR10 256 rfl (by omega) (fun b_ o_ hA_ hc_ => ?_)
    (conv => whnf)
    refine VLoad.by_ hc_ ?_
    (conv => whnf)
    refine VCmp.mk (fun g6 => ?_) (fun g6 => ?_) <;> (conv => whnf)
    · rw [if_pos (by omega)] at hF
      refine (rfail2_ok w10 h10 (k := 10) (by decide)).mono ?_
      rintro v wz ⟨rfl, hbad, kz⟩
      (conv => whnf)
      exact ⟨.mkBad hF hbad, (kp10).trans (kz.mono fun _ _ h => .inl h)⟩
    rw [if_neg (by omega)] at hF
    refine VCmp.mk (fun h => absurd rfl h) (fun _ => ?_); (conv => whnf)
    refine ⟨⟨fun a b s' e => ?_, fun e he => by rw [hF] at he; injection he⟩, kp10⟩
    rw [hF] at e
    injection e with e
    injection e with ea e
    injection e with eb es
    subst ea
    subst eb
    subst es
    exact ⟨t1, t2, rfl, ht1.keepNo k10, ht2, ⟨by omega, fun x hx => hr15 x (List.mem_of_mem_take hx), by rw [hpl]; exact gw1⟩, ⟨by omega, fun x hx => hr15 x (List.mem_of_mem_drop hx), by rw [hql]; exact gw2⟩, h10⟩
  rw [if_neg (by omega)] at hF
  refine VLoad.by_ (h3.1.1.cell 4) ?_
  (conv => whnf)
  refine VCmp.mk (fun _ => ?_) (fun h => absurd rfl h); (conv => whnf)
  obtain ⟨G, hG⟩ : ∃ G, G = symN lens sk := ⟨_, rfl⟩
  rw [← hG] at hF
  refine (rsym_ok w3 h3 z1 (by omega) (htc.keepR h8 (fpB_R kp3)) hokc).mono ?_
  rintro v w4 ⟨hv, k4⟩
  rw [← hG] at hv
  have kB4 := kp3.trans k4
  cases G with
  | error e =>
    obtain ⟨⟨z, rfl⟩, hbad⟩ := hv.bad _ rfl
    have hF : F = .error e := hF
    have he := hbad.1
    (conv => whnf)
    refine VLoad.by_ hbad.cell ?_
    (conv => whnf)
    refine VCmp.mk (fun _ => ?_) (fun h => absurd h (by omega)); (conv => whnf)
    refine VLoad.by_ hbad.cell ?_
    (conv => whnf)
    refine VCmp.mk (fun _ => ?_) (fun h => absurd h (by omega)); (conv => whnf)
    exact ⟨.mkBad hF hbad, kp8.trans kB4⟩
  | ok t =>
  obtain ⟨y, s1⟩ := t
  obtain ⟨rfl, h4⟩ := hv.ok _ _ rfl
  have hy19 := symN_lt (by omega) hG.symm
  obtain ⟨py, rfl, py1, py2, _⟩ := symN_fine hokc.1 z2 hG.symm
  dsimp only at hF
  have ho4 := ho.keep k4 hAlB
  have hAlB4 := hAlB
  (conv => whnf)
  refine VLoad.by_ (h4.1.1.cell 4) ?_
  (conv => whnf)
  refine VCmp.mk (fun h => absurd rfl h) (fun _ => ?_); (conv => whnf)
  apply withKey (T := fun N0 c0 Q => ∀ (fr : Fr) (w6 : World) (vz nz : Int) (v N : Nat) (s2 : IS) (e : Nat), fhas fr [(0, .pointer (some ⟨x, 0, none⟩)), (4, .int .i64 p), (5, .int .i64 q), (10, .pointer (some ⟨tc, 0, none⟩)), (12, .slice Al rr.length cl), (14, .int .i64 vz), (15, .int .i64 nz), (16, .int .i64 0)] →
    RpV base x bb Ab cb A c F w8 w6 p q lens g rr s2 vz nz v N 0 Al cl e → VLoop Tryd.prog tt N0 c0 Q fr w6)
  case use =>
    intro key
    refine VCmp.mk (fun g1 => ?_) (fun g1 => ?_) <;> (conv => whnf)
    · have g1 : (y : Int) ≤ 15 := g1
      have hrep : repF rr y = some (y, 1, 0) := by unfold repF; rw [if_neg (by omega), if_neg (by omega), if_neg (by omega)]
      rw [hrep] at hF
      dsimp only at hF
      rw [if_neg (by omega)] at hF
      have hF : F = rowT p q (if p + q - rr.length < 1 then .error 10 else rowF (cntK lens lens.length) (ordA lens 15) (p + q) g (rr ++ List.replicate 1 y) { sk with at_ := py }) := hF
      refine VLoad.by_ (h4.1.1.cell 4) ?_
      (conv => whnf)
      refine VCmp.mk (fun _ => ?_) (fun h => absurd rfl h); (conv => whnf)
      refine VRes.i64 (by omega) ?_; (conv => whnf)
      refine VRes.i64 (by omega) ?_; (conv => whnf)
      refine VCmp.mk (fun gc => ?_) (fun gc => ?_) <;> (conv => whnf)
      · rw [if_pos (by omega)] at hF
        refine (rfail2_ok w4 h4 (k := 10) (by decide)).mono ?_
        rintro v wz ⟨rfl, hbad, kz⟩
        (conv => whnf)
        exact key _ wz _ _ 0 0 sk 10 ⟨rfl, rfl, rfl, rfl, rfl, rfl, rfl, rfl, trivial⟩ ⟨fun h => absurd h (by decide), fun _ => ⟨hF, hbad⟩, (kB4).trans (kz.mono fun _ _ h => .inl h)⟩
      · rw [if_neg (by omega)] at hF
        refine key _ w4 _ _ (y) (1) { sk with at_ := py } 0 ⟨rfl, rfl, rfl, rfl, rfl, rfl, rfl, rfl, trivial⟩ ⟨fun _ => ⟨rfl, rfl, Nat.zero_le _, by omega, by omega, by omega, ⟨z1, py2, z3, z4, z5⟩, by omega, hr15, hF, ?_, h4⟩, fun h => absurd rfl h, kB4⟩
        rw [List.replicate_zero, List.append_nil]
        exact ho4
    have g1 : ¬ (y : Int) ≤ 15 := g1
    refine VCmp.mk (fun g2 => ?_) (fun g2 => ?_) <;> (conv => whnf)
    · have g2 : (y : Int) = 16 := g2
      refine VCmp.mk (fun g3 => ?_) (fun g3 => ?_) <;> (conv => whnf)
      · have hrep : repF rr y = none := by unfold repF; rw [if_pos (by omega), if_pos (by omega)]
        rw [hrep] at hF
        have hF : F = .error 10 := hF
        refine (rfail2_ok w4 h4 (k := 10) (by decide)).mono ?_
        rintro v w5 ⟨rfl, hbad, k5⟩
        have kB5 : Keep (fpB x bb) w8 w5 := kB4.trans (k5.mono fun _ _ h => .inl h)
        (conv => whnf)
        refine VLoad.by_ hbad.cell ?_
        (conv => whnf)
        refine VCmp.mk (fun h => absurd h (by omega)) (fun _ => ?_); (conv => whnf)
        exact key _ w5 _ _ 0 0 sk 10 ⟨rfl, rfl, rfl, rfl, rfl, rfl, rfl, rfl, trivial⟩ ⟨fun h => absurd h (by decide), fun _ => ⟨hF, hbad⟩, kB5⟩
      have hr15l := getD_le15 hr15 (rr.length - 1)
      have hrep : repF rr y = some (rr.getD (rr.length - 1) 0, 3, 2) := by unfold repF; rw [if_pos (by omega), if_neg (by omega)]
      rw [hrep] at hF
      dsimp only at hF
      have ho4s := Sl.ofOwn ho4
      refine VDraw.by_ tt_ok rfl (.take 0 (.take 1 (.take 2 (.take 3 (.take 4 (.take 5 (.take 6 (.one 7 (.take 8 (.take 9 (.take 10 .done))))))))))) (by decide +kernel) (fun x_ => Keep (fpB x bb) w4 x_) (fun x_ h1 h2 h3 h4 => (Keep.ofHeap h1 h2 h3 h4).mono (fun _ _ h => h.elim)) (fun wd hd kd => ?_)
      (conv => whnf)
      refine VRes.i64 (by omega) ?_; (conv => whnf)
      refine VIdx.nv ho4s (rr.length - 1) (by omega) (by omega) (fun b_ o_ hA_ hc_ => ?_)
      (conv => whnf)
      refine VLoad.by_ (fun z hz => hz.cell hc_ (show ¬ fpB x bb b_ from hAlB4 ⟨b_, o_, none⟩ hA_)) ?_
      (conv => whnf)
      refine (rbits2_ok wd (h4.keepNo kd) z1 (by dsimp only; omega) (n := 2) (by omega)).mono ?_
      rintro v w5 ⟨hv, k5⟩
      unfold bitsF at hv
      dsimp only at hv
      have kdd : Keep (fpB x bb) w4 w5 := (no_B kd).trans k5
      have kB5 := kB4.trans kdd
      by_cases g9 : py + 2 ≤ 8 * sk.l.length
      · rw [if_pos g9] at hv
        rw [if_neg (by omega)] at hF
        obtain ⟨rfl, h5⟩ := hv.ok _ _ rfl
        have hnb := numL_small sk.l py 2 (by omega)
        (conv => whnf)
        refine VOwe.same kdd ?_
        (conv => whnf)
        refine VRes.to (v' := .int .i64 ((3 + numL sk.l py 2 : Nat) : Int)) (by rw [wrap_i64 (by omega)]; exact congrArg _ (by omega)) ?_
        (conv => whnf)
        refine VLoad.by_ (h5.1.1.cell 4) ?_
        (conv => whnf)
        refine VCmp.mk (fun _ => ?_) (fun h => absurd rfl h); (conv => whnf)
        refine VRes.i64 (by omega) ?_; (conv => whnf)
        refine VRes.i64 (by omega) ?_; (conv => whnf)
        refine VCmp.mk (fun gc => ?_) (fun gc => ?_) <;> (conv => whnf)
        · rw [if_pos (by omega)] at hF
          refine (rfail2_ok w5 h5 (k := 10) (by decide)).mono ?_
          rintro v wz ⟨rfl, hbad, kz⟩
          (conv => whnf)
          exact key _ wz _ _ 0 0 sk 10 ⟨rfl, rfl, rfl, rfl, rfl, rfl, rfl, rfl, trivial⟩ ⟨fun h => absurd h (by decide), fun _ => ⟨hF, hbad⟩, (kB5).trans (kz.mono fun _ _ h => .inl h)⟩
        · rw [if_neg (by omega)] at hF
          refine key _ w5 _ _ (rr.getD (rr.length - 1) 0) (3 + numL sk.l py 2) { sk with at_ := py + 2 } 0 ⟨rfl, rfl, rfl, rfl, rfl, rfl, rfl, rfl, trivial⟩ ⟨fun _ => ⟨rfl, rfl, Nat.zero_le _, by omega, hr15l, by omega, ⟨z1, g9, z3, z4, z5⟩, by omega, hr15, hF, ?_, h5⟩, fun h => absurd rfl h, kB5⟩
          rw [List.replicate_zero, List.append_nil]
          exact ho4.keep kdd hAlB4
      · rw [if_neg g9] at hv
        rw [if_pos (by omega)] at hF
        obtain ⟨⟨z, rfl⟩, hbad⟩ := hv.bad _ rfl
        (conv => whnf)
        refine VOwe.same kdd ?_
        (conv => whnf)
        refine VRes.raw ?_
        (conv => whnf)
        refine VLoad.by_ hbad.cell ?_
        (conv => whnf)
        refine VCmp.mk (fun h => absurd h (by omega)) (fun _ => ?_); (conv => whnf)
        exact key _ w5 _ _ 0 0 sk 2 ⟨rfl, rfl, rfl, rfl, rfl, rfl, rfl, rfl, trivial⟩ ⟨fun h => absurd h (by decide), fun _ => ⟨hF, hbad⟩, kB5⟩
    have g2 : ¬ (y : Int) = 16 := g2
    refine VCmp.mk (fun g3 => ?_) (fun g3 => ?_) <;> (conv => whnf)
    · have g3 : (y : Int) = 17 := g3
      have hrep : repF rr y = some (0, 3, 3) := by unfold repF; rw [if_neg (by omega), if_pos (by omega)]
      rw [hrep] at hF
      dsimp only at hF
      refine (rbits2_ok w4 h4 z1 (by dsimp only; omega) (n := 3) (by omega)).mono ?_
      rintro v w5 ⟨hv, k5⟩
      unfold bitsF at hv
      dsimp only at hv
      have kdd : Keep (fpB x bb) w4 w5 := k5
      have kB5 := kB4.trans kdd
      by_cases g9 : py + 3 ≤ 8 * sk.l.length
      · rw [if_pos g9] at hv
        rw [if_neg (by omega)] at hF
        obtain ⟨rfl, h5⟩ := hv.ok _ _ rfl
        have hnb := numL_small sk.l py 3 (by omega)
        (conv => whnf)
        refine VRes.to (v' := .int .i64 ((3 + numL sk.l py 3 : Nat) : Int)) (by rw [wrap_i64 (by omega)]; exact congrArg _ (by omega)) ?_
        (conv => whnf)
        refine VLoad.by_ (h5.1.1.cell 4) ?_
        (conv => whnf)
        refine VCmp.mk (fun _ => ?_) (fun h => absurd rfl h); (conv => whnf)
        refine VRes.i64 (by omega) ?_; (conv => whnf)
        refine VRes.i64 (by omega) ?_; (conv => whnf)
        refine VCmp.mk (fun gc => ?_) (fun gc => ?_) <;> (conv => whnf)
        · rw [if_pos (by omega)] at hF
          refine (rfail2_ok w5 h5 (k := 10) (by decide)).mono ?_
          rintro v wz ⟨rfl, hbad, kz⟩
          (conv => whnf)
          exact key _ wz _ _ 0 0 sk 10 ⟨rfl, rfl, rfl, rfl, rfl, rfl, rfl, rfl, trivial⟩ ⟨fun h => absurd h (by decide), fun _ => ⟨hF, hbad⟩, (kB5).trans (kz.mono fun _ _ h => .inl h)⟩
        · rw [if_neg (by omega)] at hF
          refine key _ w5 _ _ (0) (3 + numL sk.l py 3) { sk with at_ := py + 3 } 0 ⟨rfl, rfl, rfl, rfl, rfl, rfl, rfl, rfl, trivial⟩ ⟨fun _ => ⟨rfl, rfl, Nat.zero_le _, by omega, by omega, by omega, ⟨z1, g9, z3, z4, z5⟩, by omega, hr15, hF, ?_, h5⟩, fun h => absurd rfl h, kB5⟩
          rw [List.replicate_zero, List.append_nil]
          exact ho4.keep kdd hAlB4
      · rw [if_neg g9] at hv
        rw [if_pos (by omega)] at hF
        obtain ⟨⟨z, rfl⟩, hbad⟩ := hv.bad _ rfl
        (conv => whnf)
        refine VRes.raw ?_
        (conv => whnf)
        refine VLoad.by_ hbad.cell ?_
        (conv => whnf)
        refine VCmp.mk (fun h => absurd h (by omega)) (fun _ => ?_); (conv => whnf)
        exact key _ w5 _ _ 0 0 sk 2 ⟨rfl, rfl, rfl, rfl, rfl, rfl, rfl, rfl, trivial⟩ ⟨fun h => absurd h (by decide), fun _ => ⟨hF, hbad⟩, kB5⟩
    · have g3 : ¬ (y : Int) = 17 := g3
      have hrep : repF rr y = some (0, 11, 7) := by unfold repF; rw [if_neg (by omega), if_neg (by omega), if_pos (by omega)]
      rw [hrep] at hF
      dsimp only at hF
      refine (rbits2_ok w4 h4 z1 (by dsimp only; omega) (n := 7) (by omega)).mono ?_
      rintro v w5 ⟨hv, k5⟩
      unfold bitsF at hv
      dsimp only at hv
      have kdd : Keep (fpB x bb) w4 w5 := k5
      have kB5 := kB4.trans kdd
      by_cases g9 : py + 7 ≤ 8 * sk.l.length
      · rw [if_pos g9] at hv
        rw [if_neg (by omega)] at hF
        obtain ⟨rfl, h5⟩ := hv.ok _ _ rfl
        have hnb := numL_small sk.l py 7 (by omega)
        (conv => whnf)
        refine VRes.to (v' := .int .i64 ((11 + numL sk.l py 7 : Nat) : Int)) (by rw [wrap_i64 (by omega)]; exact congrArg _ (by omega)) ?_
        (conv => whnf)
        refine VLoad.by_ (h5.1.1.cell 4) ?_
        (conv => whnf)
        refine VCmp.mk (fun _ => ?_) (fun h => absurd rfl h); (conv => whnf)
        refine VRes.i64 (by omega) ?_; (conv => whnf)
        refine VRes.i64 (by omega) ?_; (conv => whnf)
        refine VCmp.mk (fun gc => ?_) (fun gc => ?_) <;> (conv => whnf)
        · rw [if_pos (by omega)] at hF
          refine (rfail2_ok w5 h5 (k := 10) (by decide)).mono ?_
          rintro v wz ⟨rfl, hbad, kz⟩
          (conv => whnf)
          exact key _ wz _ _ 0 0 sk 10 ⟨rfl, rfl, rfl, rfl, rfl, rfl, rfl, rfl, trivial⟩ ⟨fun h => absurd h (by decide), fun _ => ⟨hF, hbad⟩, (kB5).trans (kz.mono fun _ _ h => .inl h)⟩
        · rw [if_neg (by omega)] at hF
          refine key _ w5 _ _ (0) (11 + numL sk.l py 7) { sk with at_ := py + 7 } 0 ⟨rfl, rfl, rfl, rfl, rfl, rfl, rfl, rfl, trivial⟩ ⟨fun _ => ⟨rfl, rfl, Nat.zero_le _, by omega, by omega, by omega, ⟨z1, g9, z3, z4, z5⟩, by omega, hr15, hF, ?_, h5⟩, fun h => absurd rfl h, kB5⟩
          rw [List.replicate_zero, List.append_nil]
          exact ho4.keep kdd hAlB4
      · rw [if_neg g9] at hv
        rw [if_pos (by omega)] at hF
        obtain ⟨⟨z, rfl⟩, hbad⟩ := hv.bad _ rfl
        (conv => whnf)
        refine VRes.raw ?_
        (conv => whnf)
        refine VLoad.by_ hbad.cell ?_
        (conv => whnf)
        refine VCmp.mk (fun h => absurd h (by omega)) (fun _ => ?_); (conv => whnf)
        exact key _ w5 _ _ 0 0 sk 2 ⟨rfl, rfl, rfl, rfl, rfl, rfl, rfl, rfl, trivial⟩ ⟨fun h => absurd h (by decide), fun _ => ⟨hF, hbad⟩, kB5⟩
  intro fr w6 vz nz v N s2 e hfr hrp
  clear hF hG h4 ho4
  refine VLoop.sub hfr ?_
  refine VLoop.by_ tt_ok (S := Nat × Option Addr × Nat × Nat) (fun | (i, Ai, ci, e) => [(0, .pointer (some ⟨x, 0, none⟩)), (4, .int .i64 p), (5, .int .i64 q), (10, .pointer (some ⟨tc, 0, none⟩)), (12, .slice Ai (rr.length + i : Nat) ci), (14, .int .i64 vz), (15, .int .i64 nz), (16, .int .i64 i)])
    (fun | (i, Ai, ci, e) => fun w' => RpV base x bb Ab cb A c F w8 w' p q lens g rr s2 vz nz v N i Ai ci e) (fun | (i, Ai, ci, e) => if e = 0 then N - i + 1 else 0)
    (0, Al, cl, e) ⟨rfl, rfl, rfl, rfl, rfl, rfl, rfl, rfl, trivial⟩ hrp ?_
  clear hrp hfr
  rintro ⟨i, Ai, ci, e⟩ w7 ⟨q1, q2, kp7⟩
  by_cases he : e = 0
  rotate_left 1
  · obtain ⟨hF, hbad⟩ := q2 he
    have hlen : (rr ++ List.replicate i 0).length = rr.length + i := by rw [List.length_append, List.length_replicate]
    (conv => whnf)
    refine VCmp.mk (fun gi => ?_) (fun gi => ?_) <;> (conv => whnf)
    · refine VLoad.by_ hbad.cell ?_
      (conv => whnf)
      refine VCmp.mk (fun g => absurd g (by omega)) (fun _ => ?_); (conv => whnf)
      exact ⟨(0, rr ++ List.replicate i 0, sk, Ai, ci, e), ⟨rfl, rfl, rfl, rfl, by rw [hlen]; rfl, trivial⟩, ⟨fun h => absurd h he, fun _ => ⟨hF, hbad⟩, kp7⟩, by dsimp only; rw [if_neg he, if_pos rfl]; omega⟩
    · exact ⟨(0, rr ++ List.replicate i 0, sk, Ai, ci, e), ⟨rfl, rfl, rfl, rfl, by rw [hlen]; rfl, trivial⟩, ⟨fun h => absurd h he, fun _ => ⟨hF, hbad⟩, kp7⟩, by dsimp only; rw [if_neg he, if_pos rfl]; omega⟩
  subst he
  obtain ⟨rfl, rfl, hiN, hN1, hv15, hwN, hf2, hfu2, _, hF, ho7, h7⟩ := q1 rfl
  clear q1 q2
  have kp7_sz := kp7.size
  (conv => whnf)
  refine VCmp.mk (fun gi => ?_) (fun gi => ?_) <;> (conv => whnf)
  rotate_left 1
  · obtain rfl : i = N := by omega
    have hlen : (rr ++ List.replicate i v).length = rr.length + i := by rw [List.length_append, List.length_replicate]
    refine ⟨(g, rr ++ List.replicate i v, s2, Ai, ci, 0), ⟨rfl, rfl, rfl, rfl, by rw [hlen]; rfl, trivial⟩, ⟨fun _ => ⟨hf2, by omega, by omega, fun x hx => ?_, hF, by rw [hlen]; exact ho7, h7⟩, fun h => absurd rfl h, kp7⟩, by dsimp only; rw [if_pos rfl, if_pos rfl]; omega⟩
    rcases List.mem_append.1 hx with h | h
    · exact hr15 x h
    · rw [(List.mem_replicate.1 h).2]; exact hv15
  refine VLoad.by_ (h7.1.1.cell 4) ?_
  (conv => whnf)
  refine VCmp.mk (fun _ => ?_) (fun h => absurd rfl h); (conv => whnf)
  refine VFill.by_ rfl ?_; (conv => whnf)
  refine ⟨fun wb hb2 k2 => ?_⟩
  have ho8 := ho7.keepNo k2
  have h8 := h7.keepNo k2
  have k2_sz := k2.size
  (conv => whnf)
  refine VApp.own tt_ok (it := ty107) (ei := ty3) rfl rfl rfl (size := 1) rfl rfl (by omega) ho8 (ys := [nv v]) (Sl.ofBlk (n := 1) (size := 1) hb2 rfl) (nv_one [v]) (by show (rr.length + i + 1) * 8 ≤ _; omega) (by omega) (by omega) ?_
  intro A9 c9 w9 ho9 k9 hat
  (conv => whnf)
  refine VRes.i64 (by omega) ?_; (conv => whnf)
  have e9 : (rr ++ List.replicate i v).map nv ++ [nv v] = (rr ++ List.replicate (i + 1) v).map nv := by
    rw [List.replicate_succ', ← List.append_assoc, List.map_append (l₂ := [v])]; rfl
  rw [e9] at ho9
  have h9 := h8.keepId k9 (fun j ⟨a, ha, e⟩ => by rw [← e]; exact ho8.ty ha)
  have kp9 := keep_new (kp7.trans (no_B k2)) k9 (fun j ⟨a, ha, e⟩ => by rw [← e]; exact (ho8.base_ ha).1)
  exact ⟨(i + 1, A9, c9, 0), ⟨rfl, rfl, rfl, rfl, rfl, rfl, rfl, rfl, trivial⟩, ⟨fun _ => ⟨rfl, rfl, by omega, hN1, hv15, hwN, hf2, hfu2, hr15, hF, ho9, h9⟩, fun h => absurd rfl h, kp9⟩, by dsimp only; rw [if_pos rfl, if_pos rfl]; omega⟩
end Go.Proofs.YtgmopcbfgcagaaaDoor
