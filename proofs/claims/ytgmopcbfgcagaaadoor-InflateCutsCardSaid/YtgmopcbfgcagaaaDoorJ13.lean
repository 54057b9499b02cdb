/-
  Cuts of blocks, and more behind them. In plain.
-/
import Derived.Test.YtgmopcbfgcagaaaDoorJ12
namespace Go.Proofs.YtgmopcbfgcagaaaDoor
open Go V

theorem Fine.cut {k : Nat} {s : IS} (h : Fine s) (hk : k ≤ s.l.length) (hp : s.at_ ≤ 8 * k) : Fine (cutS k s) := by
  have hl := cut_len hk
  obtain ⟨f1, f2, f3, f4, f5⟩ := h
  exact ⟨by rw [hl]; omega, by rw [hl]; exact hp, f3, f4, f5⟩
theorem blockF_three {s s' : IS} {la em : Bool} (hf : Fine s) (h : blockF s = .ok (s', la, em)) : s.at_ + 3 ≤ s'.at_ := by
  obtain ⟨f1, f2, f3, f4, f5⟩ := hf
  unfold blockF at h
  split at h
  · cases h
  split at h
  · cases h
  have hf3 : Fine { s with at_ := s.at_ + 3 } := ⟨f1, by dsimp only; omega, f3, f4, f5⟩
  split at h
  · cases hP : plainF { s with at_ := s.at_ + 3 } with
    | error e => rw [hP] at h; cases h
    | ok r =>
      obtain ⟨s1, z⟩ := r
      rw [hP] at h
      cases h
      obtain ⟨g1, g2, g3, g4, g5⟩ := plainF_fine hf3 hP
      dsimp only at g5; omega
  split at h
  · cases hP : symF fixC fixO fixDC fixDO (8 * s.l.length + 1) { s with at_ := s.at_ + 3 } with
    | error e => rw [hP] at h; cases h
    | ok s1 =>
      rw [hP] at h
      cases h
      obtain ⟨g1, g2, g3, g4, g5⟩ := symF_fine hf3 hP
      exact g5
  split at h
  · cases hP : codesF { s with at_ := s.at_ + 3 } with
    | error e => rw [hP] at h; cases h
    | ok r =>
      obtain ⟨a, b, s1⟩ := r
      rw [hP] at h
      dsimp only at h
      obtain ⟨z1, _, _, _, _, z4, z5, z6, z7, z8⟩ := codesF_fine hf3 hP
      cases hP2 : symF (cntK a a.length) (ordA a 15) (cntK b b.length) (ordA b 15) (8 * s.l.length + 1) s1 with
      | error e => rw [hP2] at h; cases h
      | ok s2 =>
        rw [hP2] at h
        cases h
        obtain ⟨g1, g2, g3, g4, g5⟩ := symF_fine z1 hP2
        dsimp only at z8; omega
  · cases h
theorem symF_both {cnt ord cntD ordD : List Nat} {k : Nat} {s : IS} {f g : Nat} (hf : Fine s) (hk : k ≤ s.l.length) (hp : s.at_ ≤ 8 * k) (h1 : 8 * k < s.at_ + f) (h2 : 8 * s.l.length < s.at_ + g) :
    CutR k (cutS k) (fun x => x.at_) (symF cnt ord cntD ordD f (cutS k s)) (symF cnt ord cntD ordD g s) := by
  have hl := cut_len hk
  rw [symF_fuel f g (cutS k s) (hf.cut hk hp) (by rw [hl]; exact h1) (by rw [hl]; show 8 * k < s.at_ + g; omega)]
  exact symF_cut g s hf hk hp
set_option maxRecDepth 100000 in
theorem blockF_cut {k : Nat} {s : IS} (hf : Fine s) (hk : k ≤ s.l.length) (hp : s.at_ ≤ 8 * k) : CutR k (fun x => (cutS k x.1, x.2)) (fun x => x.1.at_) (blockF (cutS k s)) (blockF s) := by
  have hl := cut_len hk
  have hf0 := hf
  obtain ⟨f1, f2, f3, f4, f5⟩ := hf
  by_cases h1 : 8 * k < s.at_ + 3
  · have e : blockF (cutS k s) = .error 2 := by
      unfold blockF
      rw [hl, show (cutS k s).at_ = s.at_ from rfl]
      by_cases h0 : 8 * k < s.at_ + 1
      · rw [if_pos h0]
      · rw [if_neg h0, if_pos h1]
    rw [e]
    refine CutR.late (fun a ha => ?_)
    obtain ⟨s', la, em⟩ := a
    have := blockF_three hf0 ha
    dsimp only; omega
  have hf3 : Fine { s with at_ := s.at_ + 3 } := ⟨f1, by dsimp only; omega, f3, f4, f5⟩
  have hp3 : ({ s with at_ := s.at_ + 3 } : IS).at_ ≤ 8 * k := by dsimp only; omega
  have n1 : numL (cutS k s).l s.at_ 1 = numL s.l s.at_ 1 := numL_take (by omega)
  have n2 : numL (cutS k s).l (s.at_ + 1) 2 = numL s.l (s.at_ + 1) 2 := numL_take (by omega)
  unfold blockF
  rw [hl, show (cutS k s).at_ = s.at_ from rfl, n1, n2, if_neg (show ¬ 8 * k < s.at_ + 1 by omega), if_neg h1, if_neg (show ¬ 8 * s.l.length < s.at_ + 1 by omega), if_neg (show ¬ 8 * s.l.length < s.at_ + 3 by omega)]
  rw [show (⟨(cutS k s).l, s.at_ + 3, (cutS k s).all, (cutS k s).from_, (cutS k s).most⟩ : IS) = cutS k { s with at_ := s.at_ + 3 } from rfl]
  obtain ⟨s3, e3⟩ : ∃ s3, s3 = ({ s with at_ := s.at_ + 3 } : IS) := ⟨_, rfl⟩
  have hk3 : k ≤ s3.l.length := by rw [e3]; exact hk
  have hl3 : s3.l.length = s.l.length := by rw [e3]
  rw [← e3] at hf3 hp3 ⊢
  obtain ⟨K, hK⟩ : ∃ K, K = numL s.l (s.at_ + 1) 2 := ⟨_, rfl⟩
  obtain ⟨B, hB⟩ : ∃ B, B = numL s.l s.at_ 1 := ⟨_, rfl⟩
  rw [← hK, ← hB]
  by_cases h2 : K = 0
  · rw [if_pos h2, if_pos h2]
    have h := plainF_cut hf3 hk3 hp3
    cases hP : plainF s3 with
    | error e => rw [hP] at h; obtain ⟨e', hx⟩ := h.h; rw [hx]; exact CutR.err
    | ok r =>
      obtain ⟨s', z⟩ := r
      rw [hP] at h
      rcases h.h with ⟨h6, hx⟩ | ⟨h6, hx⟩
      · rw [hx]; exact .inl ⟨h6, rfl⟩
      · rw [hx]; exact .inr ⟨h6, rfl⟩
  rw [if_neg h2, if_neg h2]
  by_cases h3 : K = 1
  · rw [if_pos h3, if_pos h3]
    obtain ⟨Y, hY⟩ : ∃ Y, Y = symF fixC fixO fixDC fixDO (8 * s.l.length + 1) s3 := ⟨_, rfl⟩
    obtain ⟨y, hy⟩ : ∃ y, y = symF fixC fixO fixDC fixDO (8 * k + 1) (cutS k s3) := ⟨_, rfl⟩
    have h : CutR k (cutS k) (fun x => x.at_) y Y := by
      rw [hy, hY]
      exact symF_both hf3 hk3 hp3 (by omega) (by omega)
    rw [← hY, ← hy]
    clear hY hy
    cases Y with
    | error e => obtain ⟨e', hx⟩ := h.h; rw [hx]; exact CutR.err
    | ok s' =>
      rcases h.h with ⟨h6, hx⟩ | ⟨h6, hx⟩
      · rw [hx]; exact .inl ⟨h6, rfl⟩
      · rw [hx]; exact .inr ⟨h6, rfl⟩
  rw [if_neg h3, if_neg h3]
  by_cases h4 : K = 2
  · rw [if_pos h4, if_pos h4]
    have hfi := fun a b s1 => codesF_fine (s := s3) (s' := s1) (a := a) (b := b) hf3
    obtain ⟨X, hX⟩ : ∃ X, X = codesF s3 := ⟨_, rfl⟩
    obtain ⟨x, hx⟩ : ∃ x, x = codesF (cutS k s3) := ⟨_, rfl⟩
    have h : CutR k (fun x => (x.1, x.2.1, cutS k x.2.2)) (fun x => x.2.2.at_) x X := by
      rw [hx, hX]
      exact codesF_cut hf3 hk3 hp3
    rw [← hX] at hfi
    rw [← hX, ← hx]
    clear hX hx
    cases X with
    | error e => obtain ⟨e', hx⟩ := h.h; rw [hx]; exact CutR.err
    | ok r =>
      obtain ⟨a, b, s1⟩ := r
      have zz := hfi a b s1 rfl
      have z1 := zz.1
      have z4 := zz.2.2.2.2.2.1
      clear zz hfi
      have hk1 : k ≤ s1.l.length := by rw [z4]; exact hk3
      have hl1 : s1.l.length = s.l.length := by rw [z4, hl3]
      rcases h.h with ⟨h6, hx⟩ | ⟨h6, hx⟩
      · rw [hx]
        dsimp only at h6 ⊢
        obtain ⟨Y, hY⟩ : ∃ Y, Y = symF (cntK a a.length) (ordA a 15) (cntK b b.length) (ordA b 15) (8 * s.l.length + 1) s1 := ⟨_, rfl⟩
        obtain ⟨y, hy⟩ : ∃ y, y = symF (cntK a a.length) (ordA a 15) (cntK b b.length) (ordA b 15) (8 * k + 1) (cutS k s1) := ⟨_, rfl⟩
        have h : CutR k (cutS k) (fun x => x.at_) y Y := by
          rw [hy, hY]
          exact symF_both z1 hk1 h6 (by omega) (by omega)
        rw [← hY, ← hy]
        clear hY hy
        cases Y with
        | error e => obtain ⟨e', hx⟩ := h.h; rw [hx]; exact CutR.err
        | ok s' =>
          rcases h.h with ⟨h6, hx⟩ | ⟨h6, hx⟩
          · rw [hx]; exact .inl ⟨h6, rfl⟩
          · rw [hx]; exact .inr ⟨h6, rfl⟩
      · rw [hx]
        dsimp only at h6 ⊢
        obtain ⟨Y, hY⟩ : ∃ Y, Y = symF (cntK a a.length) (ordA a 15) (cntK b b.length) (ordA b 15) (8 * s.l.length + 1) s1 := ⟨_, rfl⟩
        have hb := fun s' => symF_fine (cnt := cntK a a.length) (ord := ordA a 15) (cntD := cntK b b.length) (ordD := ordA b 15) (f := 8 * s.l.length + 1) (s' := s') z1
        rw [← hY] at hb
        rw [← hY]
        clear hY
        cases Y with
        | error e => exact CutR.err
        | ok s' =>
          obtain ⟨_, _, _, _, b4⟩ := hb s' rfl
          exact .inr ⟨by dsimp only; omega, rfl⟩
  · rw [if_neg h4, if_neg h4]; exact CutR.err

theorem blocksF_fine : ∀ {f : Nat} {s s' : IS}, Fine s → blocksF f s = .ok s' → Fine s' ∧ s'.l = s.l ∧ s'.from_ = s.from_ ∧ s'.most = s.most ∧ s.at_ + 1 ≤ s'.at_
  | 0, _, _, _, h => by cases h
  | f + 1, s, s', hf, h => by
    unfold blocksF at h
    cases hB : blockF s with
    | error e => rw [hB] at h; cases h
    | ok r =>
      obtain ⟨s1, la, em⟩ := r
      rw [hB] at h
      dsimp only at h
      obtain ⟨g1, g2, g3, g4, g5⟩ := blockF_fine hf hB
      cases la with
      | true =>
        have h : Except.ok s1 = Except.ok s' := h
        cases h
        exact ⟨g1, g2, g3, g4, g5⟩
      | false =>
        have h : blocksF f s1 = .ok s' := h
        obtain ⟨b1, b2, b3, b4, b5⟩ := blocksF_fine g1 h
        exact ⟨b1, b2.trans g2, b3.trans g3, b4.trans g4, by omega⟩
theorem blocksF_cut {k : Nat} : ∀ (f : Nat) (s : IS), Fine s → k ≤ s.l.length → s.at_ ≤ 8 * k → CutR k (cutS k) (fun x => x.at_) (blocksF f (cutS k s)) (blocksF f s)
  | 0, _, _, _, _ => CutR.err
  | f + 1, s, hf, hk, hp => by
    have h := blockF_cut hf hk hp
    unfold blocksF
    cases hB : blockF s with
    | error e => rw [hB] at h; obtain ⟨e', hx⟩ := h.h; rw [hx]; exact CutR.err
    | ok r =>
      obtain ⟨s1, la, em⟩ := r
      obtain ⟨g1, g2, g3, g4, g5⟩ := blockF_fine hf hB
      rw [hB] at h
      rcases h.h with ⟨h6, hx⟩ | ⟨h6, hx⟩
      · rw [hx]
        dsimp only at h6 ⊢
        cases la with
        | true => exact .inl ⟨h6, rfl⟩
        | false => exact blocksF_cut f s1 g1 (by rw [g2]; exact hk) h6
      · rw [hx]
        dsimp only at h6 ⊢
        refine CutR.late (fun a ha => ?_)
        cases la with
        | true =>
          have ha : Except.ok s1 = Except.ok a := ha
          cases ha
          exact h6
        | false =>
          have ha : blocksF f s1 = .ok a := ha
          obtain ⟨_, _, _, _, b5⟩ := blocksF_fine g1 ha
          omega
theorem blocksF_fuel : ∀ (f g : Nat) (s : IS), Fine s → 8 * s.l.length < s.at_ + f → 8 * s.l.length < s.at_ + g → blocksF f s = blocksF g s
  | 0, _, s, hf, h, _ => by have := hf.2.1; omega
  | _ + 1, 0, s, hf, _, h => by have := hf.2.1; omega
  | f + 1, g + 1, s, hf, h, h' => by
    unfold blocksF
    cases hB : blockF s with
    | error e => rfl
    | ok r =>
      obtain ⟨s1, la, em⟩ := r
      obtain ⟨g1, g2, g3, g4, g5⟩ := blockF_fine hf hB
      dsimp only
      cases la with
      | true => rfl
      | false => exact blocksF_fuel f g s1 g1 (by rw [g2]; omega) (by rw [g2]; omega)
theorem start_fine {b : List UInt8} {most : Nat} (hb : b.length ≤ 1000000) (hm : most ≤ 1000000) : Fine (startS b [] most) := by
  refine ⟨hb, Nat.zero_le _, Nat.le_refl _, ?_, ?_⟩
  · show (List.drop _ ([] : List UInt8)).length ≤ (List.drop _ ([] : List UInt8)).length + most
    omega
  · show (List.drop (0 - 32768) ([] : List UInt8)).length + most ≤ _
    simp; omega

/-- What stands behind the last block changes nothing. -/
theorem blocks_more {b t : List UInt8} {most : Nat} (hb : (b ++ t).length ≤ 1000000) (hm : most ≤ 1000000) {s : IS} (h : blocksF (8 * b.length + 1) (startS b [] most) = .ok s) :
    blocksF (8 * (b ++ t).length + 1) (startS (b ++ t) [] most) = .ok { s with l := b ++ t } := by
  have hl : (b ++ t).length = b.length + t.length := List.length_append
  have ec : cutS b.length (startS (b ++ t) [] most) = startS b [] most := by
    have e : (b ++ t).take b.length = b := List.take_left' rfl
    show (⟨(b ++ t).take b.length, _, _, _, _⟩ : IS) = _
    rw [e]; rfl
  have hR := blocksF_cut (k := b.length) (8 * (b ++ t).length + 1) (startS (b ++ t) [] most) (start_fine hb hm) (by show b.length ≤ (b ++ t).length; omega) (Nat.zero_le _)
  rw [ec, blocksF_fuel (8 * (b ++ t).length + 1) (8 * b.length + 1) (startS b [] most) (start_fine (by omega) hm) (by show 8 * b.length < 0 + _; omega) (by show 8 * b.length < 0 + _; omega), h] at hR
  cases hX : blocksF (8 * (b ++ t).length + 1) (startS (b ++ t) [] most) with
  | error e => rw [hX] at hR; obtain ⟨e', hx⟩ := hR.h; cases hx
  | ok a =>
    obtain ⟨_, g2, _⟩ := blocksF_fine (start_fine hb hm) hX
    rw [hX] at hR
    rcases hR.h with ⟨_, hx⟩ | ⟨_, hx⟩
    · cases hx
      have g2 : a.l = b ++ t := g2
      rw [← g2]
      rfl
    · cases hx
/-- Each shorter beginning is too short. -/
theorem blocks_less {b : List UInt8} {most k : Nat} (hb : b.length ≤ 1000000) (hm : most ≤ 1000000) {s : IS} (h : blocksF (8 * b.length + 1) (startS b [] most) = .ok s) (hk : k < (s.at_ + 7) / 8) :
    blocksF (8 * (b.take k).length + 1) (startS (b.take k) [] most) = .error 2 := by
  obtain ⟨g1, g2, _⟩ := blocksF_fine (start_fine hb hm) h
  have g2 : s.l = b := g2
  have hat := g1.2.1
  rw [g2] at hat
  have hkl : k ≤ b.length := by omega
  have hl : (b.take k).length = k := by rw [List.length_take]; omega
  have hR := blocksF_cut (k := k) (8 * b.length + 1) (startS b [] most) (start_fine hb hm) hkl (Nat.zero_le _)
  have ec : cutS k (startS b [] most) = startS (b.take k) [] most := rfl
  rw [ec, blocksF_fuel (8 * b.length + 1) (8 * (b.take k).length + 1) (startS (b.take k) [] most) (start_fine (by omega) hm) (by show 8 * (b.take k).length < 0 + _; omega) (by show 8 * (b.take k).length < 0 + _; omega), h] at hR
  rcases hR.h with ⟨g, _⟩ | ⟨_, hx⟩
  · have g : s.at_ ≤ 8 * k := g
    omega
  · exact hx
end Go.Proofs.YtgmopcbfgcagaaaDoor
