/-
  What a shorter input makes of blocks. In plain.
-/
import Derived.Test.YtgmopcbfgcagaaaDoorJ11
namespace Go.Proofs.YtgmopcbfgcagaaaDoor
open Go V

theorem plainF_cut {k : Nat} {s : IS} (hf : Fine s) (hk : k ≤ s.l.length) (hp : s.at_ ≤ 8 * k) : CutR k (fun x => (cutS k x.1, x.2)) (fun x => x.1.at_) (plainF (cutS k s)) (plainF s) := by
  have hl := cut_len hk
  obtain ⟨f1, f2, f3, f4, f5⟩ := hf
  have hal : s.at_ ≤ alignP s.at_ ∧ alignP s.at_ % 8 = 0 := by unfold alignP; omega
  unfold plainF
  have e1 : (cutS k s).at_ = s.at_ := rfl
  have e2 : (cutS k s).most = s.most := rfl
  have e3 : (cutS k s).from_ = s.from_ := rfl
  have e4 : (cutS k s).all = s.all := rfl
  rw [hl, e1, e2, e3, e4]
  obtain ⟨P, hP⟩ : ∃ P, P = alignP s.at_ := ⟨_, rfl⟩
  rw [← hP] at hal ⊢
  have late : 8 * k < P + 32 → ∀ a, (if 8 * s.l.length < P + 16 then Except.error 2 else if 8 * s.l.length < P + 32 then .error 2 else if numL s.l P 16 ^^^ numL s.l (P + 16) 16 ≠ 65535 then .error 10 else
      if P / 8 + 4 + numL s.l P 16 ≤ s.l.length then
        if s.most < s.all.length - s.from_ + numL s.l P 16 then .error 3 else
        .ok (({ s with at_ := 8 * (P / 8 + 4 + numL s.l P 16), all := s.all ++ (s.l.take (P / 8 + 4 + numL s.l P 16)).drop (P / 8 + 4) } : IS), numL s.l P 16 == 0)
      else if s.most < s.all.length - s.from_ + (s.l.length - (P / 8 + 4)) then .error 3 else .error 2) = .ok a → 8 * k < a.1.at_ := by
    intro h1 a ha
    split at ha
    · cases ha
    split at ha
    · cases ha
    split at ha
    · cases ha
    split at ha
    · split at ha
      · cases ha
      · cases ha; dsimp only; omega
    · split at ha <;> cases ha
  by_cases h1 : 8 * k < P + 16
  · rw [if_pos h1]
    exact CutR.late (late (by omega))
  rw [if_neg h1]
  by_cases h2 : 8 * k < P + 32
  · rw [if_pos h2]
    exact CutR.late (late h2)
  rw [if_neg h2, if_neg (show ¬ 8 * s.l.length < P + 16 by omega), if_neg (show ¬ 8 * s.l.length < P + 32 by omega)]
  have n1 : numL (cutS k s).l P 16 = numL s.l P 16 := numL_take (by omega)
  have n2 : numL (cutS k s).l (P + 16) 16 = numL s.l (P + 16) 16 := numL_take (by omega)
  rw [n1, n2]
  obtain ⟨N, hN⟩ : ∃ N, N = numL s.l P 16 := ⟨_, rfl⟩
  rw [← hN]
  by_cases h3 : N ^^^ numL s.l (P + 16) 16 ≠ 65535
  · rw [if_pos h3, if_pos h3]; exact CutR.err
  rw [if_neg h3, if_neg h3]
  by_cases h4 : P / 8 + 4 + N ≤ k
  · rw [if_pos h4, if_pos (show P / 8 + 4 + N ≤ s.l.length by omega)]
    by_cases h5 : s.most < s.all.length - s.from_ + N
    · rw [if_pos h5, if_pos h5]; exact CutR.err
    rw [if_neg h5, if_neg h5]
    refine .inl ⟨by dsimp only; omega, ?_⟩
    have : (cutS k s).l.take (P / 8 + 4 + N) = s.l.take (P / 8 + 4 + N) := by
      show (s.l.take k).take _ = _
      rw [List.take_take, Nat.min_eq_left h4]
    rw [this]
    rfl
  · rw [if_neg h4]
    by_cases h5 : P / 8 + 4 + N ≤ s.l.length
    · rw [if_pos h5]
      by_cases h6 : s.most < s.all.length - s.from_ + N
      · rw [if_pos h6]
        split <;> exact CutR.err
      · rw [if_neg h6, if_neg (by omega)]
        exact .inr ⟨by dsimp only; omega, rfl⟩
    · rw [if_neg h5]
      split <;> split <;> exact CutR.err
theorem rowF_cut {cnt ord : List Nat} (ho : ∀ x ∈ ord, x < 19) {want k : Nat} : ∀ (f : Nat) (r : List Nat) (s : IS), Fine s → (∀ x ∈ r, x ≤ 15) → r.length ≤ want → k ≤ s.l.length → s.at_ ≤ 8 * k → CutR k (fun x => (x.1, cutS k x.2)) (fun x => x.2.at_) (rowF cnt ord want f r (cutS k s)) (rowF cnt ord want f r s)
  | 0, _, _, _, _, _, _, _ => CutR.err
  | f + 1, r, s, hf, hr, hl, hk, hp => by
    have hcl := cut_len hk
    obtain ⟨f1, f2, f3, f4, f5⟩ := hf
    have hsym := takeK_lt (by omega) cnt ord s.l ho 15 1 0 0 0 s.at_
    have hsym : (takeF cnt ord s.l s.at_).1 < 19 := hsym
    obtain ⟨p1, p2, p3⟩ := takeF_pos cnt ord s.l s.at_ f2
    have hT := takeF_cut (cnt := cnt) (ord := ord) hk hp
    unfold rowF
    rw [hcl]
    obtain ⟨T, eT⟩ : ∃ T, T = takeF cnt ord s.l s.at_ := ⟨_, rfl⟩
    rw [← eT] at hT p1 p2 p3 hsym ⊢
    obtain ⟨y, er, p⟩ := T
    dsimp only at hT p1 p2 p3 hsym ⊢
    by_cases h0 : want ≤ r.length
    · rw [if_pos h0, if_pos h0]
      exact .inl ⟨hp, rfl⟩
    rw [if_neg h0, if_neg h0]
    -- what comes behind is no less far
    have late : 8 * k < p → ∀ a, (if er ≠ 0 then Except.error er else match repF r y with
        | none => .error 10
        | some (v, n, b) => if 8 * s.l.length < p + b then .error 2 else if want - r.length < n + numL s.l p b then .error 10 else
          rowF cnt ord want f (r ++ List.replicate (n + numL s.l p b) v) { s with at_ := p + b }) = .ok a → 8 * k < a.2.at_ := by
      intro h1 a ha
      split at ha
      · cases ha
      split at ha
      · cases ha
      rename_i v n b hrep
      obtain ⟨hv, hn⟩ := rep_le15 hr hsym hrep
      split at ha
      · cases ha
      split at ha
      · cases ha
      obtain ⟨r', s'⟩ := a
      obtain ⟨_, _, _, _, _, _, _, z8⟩ := rowF_fine ho f _ { s with at_ := p + b } ⟨f1, by dsimp only; omega, f3, f4, f5⟩ (by
        intro x hx
        rcases List.mem_append.1 hx with h | h
        · exact hr x h
        · rw [(List.mem_replicate.1 h).2]; exact hv) (by rw [List.length_append, List.length_replicate]; omega) ha
      dsimp only at z8 ⊢
      omega
    rcases hT with ⟨h1, h2⟩ | ⟨h1, h2⟩
    · rw [h1]
      dsimp only
      by_cases h3 : er ≠ 0
      · rw [if_pos h3, if_pos h3]; exact CutR.err
      rw [if_neg h3, if_neg h3]
      cases hrep : repF r y with
      | none => exact CutR.err
      | some q =>
        obtain ⟨v, n, b⟩ := q
        obtain ⟨hv, hn⟩ := rep_le15 hr hsym hrep
        dsimp only
        have hr2 : ∀ N, ∀ x ∈ r ++ List.replicate N v, x ≤ 15 := by
          intro N x hx
          rcases List.mem_append.1 hx with h | h
          · exact hr x h
          · rw [(List.mem_replicate.1 h).2]; exact hv
        by_cases h4 : 8 * k < p + b
        · rw [if_pos h4]
          refine CutR.late (fun a ha => ?_)
          split at ha
          · cases ha
          split at ha
          · cases ha
          obtain ⟨r', s'⟩ := a
          obtain ⟨_, _, _, _, _, _, _, z8⟩ := rowF_fine ho f _ { s with at_ := p + b } ⟨f1, by dsimp only; omega, f3, f4, f5⟩ (hr2 _) (by rw [List.length_append, List.length_replicate]; omega) ha
          dsimp only at z8 ⊢
          omega
        · rw [if_neg h4, if_neg (show ¬ 8 * s.l.length < p + b by omega)]
          have n1 : numL (cutS k s).l p b = numL s.l p b := numL_take (by omega)
          rw [n1]
          by_cases h5 : want - r.length < n + numL s.l p b
          · rw [if_pos h5, if_pos h5]; exact CutR.err
          rw [if_neg h5, if_neg h5]
          exact rowF_cut ho f _ { s with at_ := p + b } ⟨f1, by dsimp only; omega, f3, f4, f5⟩ (hr2 _) (by rw [List.length_append, List.length_replicate]; omega) hk (by dsimp only; omega)
    · rw [if_pos (by omega), h1]
      refine CutR.late (fun a ha => ?_)
      by_cases h3 : er ≠ 0
      · rw [if_pos h3] at ha; cases ha
      · exact late (h2 (by omega)) a ha
theorem lensK_take {L : List UInt8} {k a : Nat} : ∀ {r : Nat}, a + 3 * r ≤ 8 * k → lensK (L.take k) a r = lensK L a r
  | 0, _ => rfl
  | r + 1, h => by
    unfold lensK
    rw [lensK_take (r := r) (by omega), numL_take (by omega)]
theorem headsF_take {k : Nat} {s : IS} (hk : k ≤ s.l.length) (h : s.at_ + 14 ≤ 8 * k) : headsF (cutS k s) = headsF s := by
  have hl := cut_len hk
  have e : ∀ i, i < 3 → hdN (cutS k s).l s.at_ i = hdN s.l s.at_ i := fun i hi => by
    unfold hdN
    have h2 : hdA i + hdW i ≤ 14 := by
      have : i = 0 ∨ i = 1 ∨ i = 2 := by omega
      rcases this with rfl | rfl | rfl <;> decide
    have : numL (cutS k s).l (s.at_ + hdA i) (hdW i) = numL s.l (s.at_ + hdA i) (hdW i) := numL_take (by omega)
    rw [this]
  unfold headsF
  rw [hl, show (cutS k s).at_ = s.at_ from rfl, if_neg (by omega), if_neg (by omega), e 0 (by omega), e 1 (by omega), e 2 (by omega)]
theorem codesF_cut {k : Nat} {s : IS} (hf : Fine s) (hk : k ≤ s.l.length) (hp : s.at_ ≤ 8 * k) : CutR k (fun x => (x.1, x.2.1, cutS k x.2.2)) (fun x => x.2.2.at_) (codesF (cutS k s)) (codesF s) := by
  have hl := cut_len hk
  have hf0 := hf
  obtain ⟨f1, f2, f3, f4, f5⟩ := hf
  by_cases h1 : s.at_ + 14 ≤ 8 * k
  rotate_left 1
  · have e : codesF (cutS k s) = .error 2 := by
      unfold codesF headsF
      rw [hl, show (cutS k s).at_ = s.at_ from rfl, if_pos (by omega)]
    rw [e]
    refine CutR.late (fun a ha => ?_)
    obtain ⟨a1, a2, s'⟩ := a
    unfold codesF at ha
    split at ha
    · cases ha
    rename_i p q r hh
    have hat : s.at_ + 14 ≤ 8 * s.l.length := by
      unfold headsF at hh
      split at hh
      · cases hh
      · omega
    split at ha
    · cases ha
    split at ha
    · cases ha
    split at ha
    · cases ha
    split at ha
    · cases ha
    rename_i g1 g2 g3 row s1 hrow
    obtain ⟨_, _, _, _, _, _, _, z8⟩ := rowF_fine (fun x hx => by
      have := ordA_lt _ _ x hx
      rwa [lensK_len] at this) _ _ { s with at_ := s.at_ + 14 + 3 * r } ⟨f1, by dsimp only; omega, f3, f4, f5⟩ (fun x hx => by cases hx) (by simp) hrow
    split at ha
    · cases ha
    split at ha
    · cases ha
    split at ha
    · cases ha
    · cases ha
      dsimp only at z8 ⊢
      omega
  unfold codesF
  rw [headsF_take hk h1]
  cases hh : headsF s with
  | error e => exact CutR.err
  | ok H =>
    obtain ⟨p, q, r⟩ := H
    dsimp only
    rw [hl, show (cutS k s).at_ = s.at_ from rfl]
    by_cases h2 : 286 < p ∨ 30 < q
    · rw [if_pos h2, if_pos h2]; exact CutR.err
    rw [if_neg h2, if_neg h2]
    have ho : ∀ x ∈ ordA (lensK s.l (s.at_ + 14) r) 15, x < 19 := fun x hx => by
      have := ordA_lt _ _ x hx
      rwa [lensK_len] at this
    by_cases h3 : 8 * k < s.at_ + 14 + 3 * r
    · rw [if_pos h3]
      refine CutR.late (fun a ha => ?_)
      obtain ⟨a1, a2, s'⟩ := a
      split at ha
      · cases ha
      split at ha
      · cases ha
      split at ha
      · cases ha
      rename_i g2 g3 row s1 hrow
      obtain ⟨_, _, _, _, _, _, _, z8⟩ := rowF_fine ho _ _ { s with at_ := s.at_ + 14 + 3 * r } ⟨f1, by dsimp only; omega, f3, f4, f5⟩ (fun x hx => by cases hx) (by simp) hrow
      split at ha
      · cases ha
      split at ha
      · cases ha
      split at ha
      · cases ha
      · cases ha
        dsimp only at z8 ⊢
        omega
    rw [if_neg h3, if_neg (show ¬ 8 * s.l.length < s.at_ + 14 + 3 * r by omega)]
    have e5 : lensK (cutS k s).l (s.at_ + 14) r = lensK s.l (s.at_ + 14) r := lensK_take (by omega)
    rw [e5]
    by_cases h4 : wholeB (cntK (lensK s.l (s.at_ + 14) r) 19) = false
    · rw [if_pos h4, if_pos h4]; exact CutR.err
    rw [if_neg h4, if_neg h4]
    have hfr : Fine { s with at_ := s.at_ + 14 + 3 * r } := ⟨f1, by dsimp only; omega, f3, f4, f5⟩
    have h := rowF_cut (cnt := cntK (lensK s.l (s.at_ + 14) r) 19) ho (want := p + q) (p + q + 1) [] { s with at_ := s.at_ + 14 + 3 * r } hfr (fun x hx => by cases hx) (by simp) (k := k) hk (by dsimp only; omega)
    have ec : cutS k { s with at_ := s.at_ + 14 + 3 * r } = ⟨(cutS k s).l, s.at_ + 14 + 3 * r, (cutS k s).all, (cutS k s).from_, (cutS k s).most⟩ := rfl
    rw [ec] at h
    cases hR : rowF (cntK (lensK s.l (s.at_ + 14) r) 19) (ordA (lensK s.l (s.at_ + 14) r) 15) (p + q) (p + q + 1) [] { s with at_ := s.at_ + 14 + 3 * r } with
    | error e => rw [hR] at h; obtain ⟨e', hx⟩ := h.h; rw [hx]; exact CutR.err
    | ok R =>
      obtain ⟨row, s1⟩ := R
      rw [hR] at h
      rcases h.h with ⟨h6, hx⟩ | ⟨h6, hx⟩
      · rw [hx]
        dsimp only at h6 ⊢
        by_cases h7 : wholeB (cntK (row.take p) p) = false
        · rw [if_pos h7, if_pos h7]; exact CutR.err
        rw [if_neg h7, if_neg h7]
        by_cases h8 : row.getD 256 0 = 0
        · rw [if_pos h8, if_pos h8]; exact CutR.err
        rw [if_neg h8, if_neg h8]
        by_cases h9 : wholeB (cntK (row.drop p) q) = false
        · rw [if_pos h9, if_pos h9]; exact CutR.err
        rw [if_neg h9, if_neg h9]
        exact .inl ⟨h6, rfl⟩
      · rw [hx]
        dsimp only at h6 ⊢
        refine CutR.late (fun a ha => ?_)
        split at ha
        · cases ha
        split at ha
        · cases ha
        split at ha
        · cases ha
        · cases ha
          exact h6
end Go.Proofs.YtgmopcbfgcagaaaDoor
