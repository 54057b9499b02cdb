/-
  Packets with a lesser most. In plain.
-/
import Derived.Test.YtgmopcbfgcagaaaDoorJ15
namespace Go.Proofs.YtgmopcbfgcagaaaDoor
open Go V

theorem plainF_more {M : Nat} {s : IS} (hf : Fine s) : MorR M (fun x => (mostS M x.1, x.2)) (fun x => x.1) (plainF (mostS M s)) (plainF s) := by
  obtain ⟨f1, f2, f3, f4, f5⟩ := hf
  unfold plainF
  have e1 : (mostS M s).l = s.l := rfl
  have e2 : (mostS M s).at_ = s.at_ := rfl
  have e3 : (mostS M s).all = s.all := rfl
  have e4 : (mostS M s).from_ = s.from_ := rfl
  have e5 : (mostS M s).most = M := rfl
  rw [e1, e2, e3, e4, e5]
  obtain ⟨P, hP⟩ : ∃ P, P = alignP s.at_ := ⟨_, rfl⟩
  rw [← hP]
  by_cases h1 : 8 * s.l.length < P + 16
  · rw [if_pos h1, if_pos h1]; exact .err
  rw [if_neg h1, if_neg h1]
  by_cases h2 : 8 * s.l.length < P + 32
  · rw [if_pos h2, if_pos h2]; exact .err
  rw [if_neg h2, if_neg h2]
  obtain ⟨N, hN⟩ : ∃ N, N = numL s.l P 16 := ⟨_, rfl⟩
  rw [← hN]
  by_cases h3 : N ^^^ numL s.l (P + 16) 16 ≠ 65535
  · rw [if_pos h3, if_pos h3]; exact .err
  rw [if_neg h3, if_neg h3]
  by_cases h4 : P / 8 + 4 + N ≤ s.l.length
  · rw [if_pos h4, if_pos h4]
    have hl : ((s.l.take (P / 8 + 4 + N)).drop (P / 8 + 4)).length = N := by rw [List.length_drop, List.length_take]; omega
    by_cases h5 : s.most < s.all.length - s.from_ + N
    · rw [if_pos h5]; exact .err
    rw [if_neg h5]
    by_cases h6 : M < s.all.length - s.from_ + N
    · rw [if_pos h6]
      exact .inr ⟨by dsimp only; rw [List.length_append, hl]; omega, rfl⟩
    · rw [if_neg h6]
      exact .inl ⟨by dsimp only; rw [List.length_append, hl]; omega, rfl⟩
  · rw [if_neg h4]
    split <;> split <;> exact .err
theorem plainF_grow {s s' : IS} {z : Bool} (h : plainF s = .ok (s', z)) : s.all.length ≤ s'.all.length := by
  unfold plainF at h
  split at h
  · cases h
  split at h
  · cases h
  split at h
  · cases h
  split at h
  · split at h
    · cases h
    · cases h
      dsimp only
      rw [List.length_append]; omega
  · split at h <;> cases h
theorem symM_both {cnt ord cntD ordD : List Nat} {M f : Nat} {s : IS} (hf : Fine s) (hM : s.all.length - s.from_ ≤ M) : MorR M (mostS M) (fun x => x) (symF cnt ord cntD ordD f (mostS M s)) (symF cnt ord cntD ordD f s) := symF_more f s hf hM
set_option maxRecDepth 100000 in
theorem blockF_more {M : Nat} {s : IS} (hf : Fine s) (hM : s.all.length - s.from_ ≤ M) : MorR M (fun x => (mostS M x.1, x.2)) (fun x => x.1) (blockF (mostS M s)) (blockF s) := by
  obtain ⟨f1, f2, f3, f4, f5⟩ := hf
  unfold blockF
  have e1 : (mostS M s).l = s.l := rfl
  have e2 : (mostS M s).at_ = s.at_ := rfl
  rw [e1, e2]
  by_cases h1 : 8 * s.l.length < s.at_ + 1
  · rw [if_pos h1, if_pos h1]; exact .err
  rw [if_neg h1, if_neg h1]
  by_cases h2 : 8 * s.l.length < s.at_ + 3
  · rw [if_pos h2, if_pos h2]; exact .err
  rw [if_neg h2, if_neg h2]
  rw [show (⟨s.l, s.at_ + 3, (mostS M s).all, (mostS M s).from_, (mostS M s).most⟩ : IS) = mostS M { s with at_ := s.at_ + 3 } from rfl]
  have hf3 : Fine { s with at_ := s.at_ + 3 } := ⟨f1, by dsimp only; omega, f3, f4, f5⟩
  obtain ⟨s3, e3⟩ : ∃ s3, s3 = ({ s with at_ := s.at_ + 3 } : IS) := ⟨_, rfl⟩
  have hM3 : s3.all.length - s3.from_ ≤ M := by rw [e3]; exact hM
  rw [← e3] at hf3 ⊢
  obtain ⟨K, hK⟩ : ∃ K, K = numL s.l (s.at_ + 1) 2 := ⟨_, rfl⟩
  obtain ⟨B, hB⟩ : ∃ B, B = numL s.l s.at_ 1 := ⟨_, rfl⟩
  obtain ⟨Q, hQ⟩ : ∃ Q, Q = 8 * s.l.length + 1 := ⟨_, rfl⟩
  rw [← hK, ← hB, ← hQ]
  by_cases h3 : K = 0
  · rw [if_pos h3, if_pos h3]
    have h := plainF_more (M := M) hf3
    obtain ⟨X, hX⟩ : ∃ X, X = plainF s3 := ⟨_, rfl⟩
    rw [← hX] at h ⊢
    clear hX
    cases X with
    | error e => exact .err
    | ok r =>
      obtain ⟨s', z⟩ := r
      rcases h.h with ⟨h6, hx⟩ | ⟨h6, hx⟩
      · rw [hx]; exact .inl ⟨h6, rfl⟩
      · rw [hx]; exact .inr ⟨h6, rfl⟩
  rw [if_neg h3, if_neg h3]
  by_cases h4 : K = 1
  · rw [if_pos h4, if_pos h4]
    obtain ⟨X, hX⟩ : ∃ X, X = symF fixC fixO fixDC fixDO Q s3 := ⟨_, rfl⟩
    obtain ⟨x, hx⟩ : ∃ x, x = symF fixC fixO fixDC fixDO Q (mostS M s3) := ⟨_, rfl⟩
    have h : MorR M (mostS M) (fun x => x) x X := by rw [hx, hX]; exact symM_both hf3 hM3
    rw [← hX, ← hx]
    clear hX hx
    cases X with
    | error e => exact .err
    | ok s' =>
      rcases h.h with ⟨h6, hx⟩ | ⟨h6, hx⟩
      · rw [hx]; exact .inl ⟨h6, rfl⟩
      · rw [hx]; exact .inr ⟨h6, rfl⟩
  rw [if_neg h4, if_neg h4]
  by_cases h5 : K = 2
  · rw [if_pos h5, if_pos h5, codesF_most]
    have hfi := fun a b s1 => codesF_fine (s := s3) (s' := s1) (a := a) (b := b) hf3
    obtain ⟨C, hC⟩ : ∃ C, C = codesF s3 := ⟨_, rfl⟩
    rw [← hC] at hfi ⊢
    clear hC
    cases C with
    | error e => exact .err
    | ok r =>
      obtain ⟨a, b, s1⟩ := r
      have zz := hfi a b s1 rfl
      have z1 := zz.1
      have z5 := zz.2.2.2.2.2.2.1
      have z6 := zz.2.2.2.2.2.2.2.1
      clear zz hfi
      simp only [Except.map]
      obtain ⟨X, hX⟩ : ∃ X, X = symF (cntK a a.length) (ordA a 15) (cntK b b.length) (ordA b 15) Q s1 := ⟨_, rfl⟩
      obtain ⟨x, hx⟩ : ∃ x, x = symF (cntK a a.length) (ordA a 15) (cntK b b.length) (ordA b 15) Q (mostS M s1) := ⟨_, rfl⟩
      have h : MorR M (mostS M) (fun x => x) x X := by rw [hx, hX]; exact symM_both z1 (by rw [z5, z6]; exact hM3)
      rw [← hX, ← hx]
      clear hX hx
      cases X with
      | error e => exact .err
      | ok s' =>
        rcases h.h with ⟨h6, hx⟩ | ⟨h6, hx⟩
        · rw [hx]; exact .inl ⟨h6, rfl⟩
        · rw [hx]; exact .inr ⟨h6, rfl⟩
  · rw [if_neg h5, if_neg h5]; exact .err
theorem blockF_grow {s s' : IS} {la em : Bool} (hf : Fine s) (h : blockF s = .ok (s', la, em)) : s.all.length ≤ s'.all.length := by
  obtain ⟨f1, f2, f3, f4, f5⟩ := hf
  unfold blockF at h
  split at h
  · cases h
  split at h
  · cases h
  have hf3 : Fine { s with at_ := s.at_ + 3 } := ⟨f1, by dsimp only; omega, f3, f4, f5⟩
  split at h
  · cases hP : plainF { s with at_ := s.at_ + 3 } with
    | error e => rw [hP] at h; cases h
    | ok r =>
      obtain ⟨s1, z⟩ := r
      rw [hP] at h
      cases h
      have g := plainF_grow hP
      exact g
  split at h
  · cases hP : symF fixC fixO fixDC fixDO (8 * s.l.length + 1) { s with at_ := s.at_ + 3 } with
    | error e => rw [hP] at h; cases h
    | ok s1 =>
      rw [hP] at h
      cases h
      have g := symF_grow _ hf3 hP
      exact g
  split at h
  · cases hP : codesF { s with at_ := s.at_ + 3 } with
    | error e => rw [hP] at h; cases h
    | ok r =>
      obtain ⟨a, b, s1⟩ := r
      rw [hP] at h
      dsimp only at h
      obtain ⟨z1, _, _, _, _, z4, z5, z6, z7, z8⟩ := codesF_fine hf3 hP
      cases hP2 : symF (cntK a a.length) (ordA a 15) (cntK b b.length) (ordA b 15) (8 * s.l.length + 1) s1 with
      | error e => rw [hP2] at h; cases h
      | ok s2 =>
        rw [hP2] at h
        cases h
        have := symF_grow _ z1 hP2
        rw [z5] at this
        exact this
  · cases h
theorem packK_fine : ∀ {f : Nat} {s s' : IS}, Fine s → packK f s = .ok s' → Fine s' ∧ s'.from_ = s.from_ ∧ s'.most = s.most ∧ s.all.length ≤ s'.all.length
  | 0, _, _, _, h => by cases h
  | f + 1, s, s', hf, h => by
    unfold packK at h
    cases hB : blockF s with
    | error e => rw [hB] at h; cases h
    | ok r =>
      obtain ⟨s1, la, em⟩ := r
      rw [hB] at h
      dsimp only at h
      obtain ⟨g1, g2, g3, g4, g5⟩ := blockF_fine hf hB
      have g6 := blockF_grow hf hB
      split at h
      · cases h
      split at h
      · obtain ⟨b1, b2, b3, b4⟩ := packK_fine g1 h
        exact ⟨b1, b2.trans g3, b3.trans g4, by omega⟩
      split at h
      · cases h; exact ⟨g1, g3, g4, g6⟩
      · cases h
theorem packK_more {M : Nat} : ∀ (f : Nat) (s : IS), Fine s → s.all.length - s.from_ ≤ M → MorR M (mostS M) (fun x => x) (packK f (mostS M s)) (packK f s)
  | 0, _, _, _ => .err
  | f + 1, s, hf, hM => by
    have h := blockF_more hf hM
    unfold packK
    have hfi := fun s1 la em => @blockF_fine s s1 la em hf
    obtain ⟨X, hX⟩ : ∃ X, X = blockF s := ⟨_, rfl⟩
    obtain ⟨x, hx⟩ : ∃ x, x = blockF (mostS M s) := ⟨_, rfl⟩
    rw [← hX] at hfi
    rw [← hX, ← hx] at h ⊢
    clear hX hx
    cases X with
    | error e => exact .err
    | ok r =>
      obtain ⟨s1, la, em⟩ := r
      have g1 := (hfi s1 la em rfl).1
      clear hfi
      dsimp only
      cases la with
      | true => exact .err
      | false =>
        rw [if_neg (by decide)]
        rcases h.h with ⟨h6, hx⟩ | ⟨h6, hx⟩
        · rw [hx]
          dsimp only
          rw [if_neg (by decide), show (mostS M s1).at_ = s1.at_ from rfl, show (mostS M s1).l = s1.l from rfl]
          by_cases h7 : s1.at_ < 8 * s1.l.length
          · rw [if_pos h7, if_pos h7]
            exact packK_more f s1 g1 h6
          rw [if_neg h7, if_neg h7]
          cases em with
          | true => exact .inl ⟨h6, rfl⟩
          | false => exact .err
        · rw [hx]
          dsimp only
          refine MorR.late (fun a ha => ?_)
          have h6 : M < s1.all.length - s1.from_ := h6
          show M < a.all.length - a.from_
          split at ha
          · obtain ⟨_, b2, _, b4⟩ := packK_fine g1 ha
            omega
          split at ha
          · cases ha; exact h6
          · cases ha
theorem startH_fine {b hist : List UInt8} {most : Nat} (hb : b.length ≤ 1000000) (hh : hist.length ≤ 1000000) (hm : most ≤ 1000000) : Fine (startS b hist most) := by
  unfold startS Fine
  dsimp only
  rw [List.length_drop]
  exact ⟨by omega, by omega, Nat.le_refl _, by omega, by omega⟩
theorem most_start (b hist : List UInt8) (most M : Nat) : mostS M (startS b hist most) = startS b hist M := by
  unfold startS mostS
  dsimp only
theorem pack_same {b hist : List UInt8} {most f : Nat} (hb : b.length ≤ 1000000) (hh : hist.length ≤ 1000000) (hm : most ≤ 1000000) {s : IS} (h : packK f (startS b hist most) = .ok s) : packK f (startS b hist (s.all.drop s.from_).length) = .ok (mostS (s.all.drop s.from_).length s) := by
  have hl : (s.all.drop s.from_).length = s.all.length - s.from_ := List.length_drop
  have h0 : (startS b hist most).all.length - (startS b hist most).from_ ≤ (s.all.drop s.from_).length := by unfold startS; dsimp only; omega
  obtain ⟨M, eM⟩ : ∃ M, M = (s.all.drop s.from_).length := ⟨_, rfl⟩
  rw [← eM] at h0 hl ⊢
  have hR : MorR M (mostS M) (fun x => x) (packK f (startS b hist M)) (.ok s) := by
    rw [← h, ← most_start b hist most M]; exact packK_more f (startS b hist most) (startH_fine hb hh hm) h0
  clear h h0
  rcases hR.h with ⟨_, hx⟩ | ⟨h6, _⟩
  · exact hx
  · have h6 : M < s.all.length - s.from_ := h6
    omega
theorem pack_less {b hist : List UInt8} {most f M : Nat} (hb : b.length ≤ 1000000) (hh : hist.length ≤ 1000000) (hm : most ≤ 1000000) {s : IS} (h : packK f (startS b hist most) = .ok s) (hM : M < (s.all.drop s.from_).length) : packK f (startS b hist M) = .error 3 := by
  have hl : (s.all.drop s.from_).length = s.all.length - s.from_ := List.length_drop
  have h0 : (startS b hist most).all.length - (startS b hist most).from_ ≤ M := by unfold startS; dsimp only; omega
  have hR : MorR M (mostS M) (fun x => x) (packK f (startS b hist M)) (.ok s) := by
    rw [← h, ← most_start b hist most M]; exact packK_more f (startS b hist most) (startH_fine hb hh hm) h0
  clear h h0
  rcases hR.h with ⟨h6, _⟩ | ⟨_, hx⟩
  · have h6 : s.all.length - s.from_ ≤ M := h6
    omega
  · exact hx
end Go.Proofs.YtgmopcbfgcagaaaDoor
