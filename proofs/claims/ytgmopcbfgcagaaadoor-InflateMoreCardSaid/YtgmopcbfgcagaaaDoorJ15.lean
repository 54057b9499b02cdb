/-
  What a lesser most makes of it. In plain.
-/
import Derived.Test.YtgmopcbfgcagaaaDoorJ10
namespace Go.Proofs.YtgmopcbfgcagaaaDoor
open Go V

def mostS (M : Nat) (s : IS) : IS := { s with most := M }
/-- Where all comes out well with more room: with M it does, or it is told to be too long. -/
structure MorR {α : Type} (M : Nat) (g : α → α) (p : α → IS) (x X : Except Nat α) : Prop where
  h : match X with
    | .ok a => ((p a).all.length - (p a).from_ ≤ M ∧ x = .ok (g a)) ∨ (M < (p a).all.length - (p a).from_ ∧ x = .error 3)
    | .error _ => True
theorem MorR.err {α : Type} {M : Nat} {g : α → α} {p : α → IS} {x : Except Nat α} {e : Nat} : MorR M g p x (.error e) := ⟨trivial⟩
theorem MorR.inl {α : Type} {M : Nat} {g : α → α} {p : α → IS} {x : Except Nat α} {a : α} (h : (p a).all.length - (p a).from_ ≤ M ∧ x = .ok (g a)) : MorR M g p x (.ok a) := ⟨.inl h⟩
theorem MorR.inr {α : Type} {M : Nat} {g : α → α} {p : α → IS} {x : Except Nat α} {a : α} (h : M < (p a).all.length - (p a).from_ ∧ x = .error 3) : MorR M g p x (.ok a) := ⟨.inr h⟩
theorem MorR.late {α : Type} {M : Nat} {g : α → α} {p : α → IS} {X : Except Nat α} (h : ∀ a, X = .ok a → M < (p a).all.length - (p a).from_) : MorR M g p (.error 3) X := by
  cases X with
  | error e => exact .err
  | ok a => exact .inr ⟨h a rfl, rfl⟩

theorem lenF_most (M : Nat) (s : IS) (y : Nat) : lenF (mostS M s) y = (lenF s y).map (fun x => (x.1, mostS M x.2)) := by
  unfold lenF
  have e1 : (mostS M s).l = s.l := rfl
  have e2 : (mostS M s).at_ = s.at_ := rfl
  rw [e1, e2]
  by_cases h1 : 286 ≤ y
  · rw [if_pos h1, if_pos h1]; rfl
  rw [if_neg h1, if_neg h1]
  by_cases h2 : y = 285
  · rw [if_pos h2, if_pos h2]; rfl
  rw [if_neg h2, if_neg h2]
  by_cases h3 : y < 265
  · rw [if_pos h3, if_pos h3]; rfl
  rw [if_neg h3, if_neg h3]
  by_cases h4 : 8 * s.l.length < s.at_ + (y - 261) / 4
  · rw [if_pos h4, if_pos h4]; rfl
  rw [if_neg h4, if_neg h4]; rfl
theorem distF_most (M : Nat) (cnt ord : List Nat) (s : IS) : distF cnt ord (mostS M s) = (distF cnt ord s).map (fun x => (x.1, mostS M x.2)) := by
  unfold distF
  have e1 : (mostS M s).l = s.l := rfl
  have e2 : (mostS M s).at_ = s.at_ := rfl
  rw [e1, e2]
  obtain ⟨T, hT⟩ : ∃ T, T = takeF cnt ord s.l s.at_ := ⟨_, rfl⟩
  rw [← hT]
  by_cases h1 : T.2.1 ≠ 0
  · rw [if_pos h1, if_pos h1]; rfl
  rw [if_neg h1, if_neg h1]
  by_cases h2 : 30 ≤ T.1
  · rw [if_pos h2, if_pos h2]; rfl
  rw [if_neg h2, if_neg h2]
  by_cases h3 : T.1 < 4
  · rw [if_pos h3, if_pos h3]; rfl
  rw [if_neg h3, if_neg h3]
  by_cases h4 : 8 * s.l.length < T.2.2 + (T.1 / 2 - 1)
  · rw [if_pos h4, if_pos h4]; rfl
  rw [if_neg h4, if_neg h4]; rfl
theorem headsF_most (M : Nat) (s : IS) : headsF (mostS M s) = headsF s := rfl
theorem rowF_most (M : Nat) (cnt ord : List Nat) (want : Nat) : ∀ (f : Nat) (r : List Nat) (s : IS), rowF cnt ord want f r (mostS M s) = (rowF cnt ord want f r s).map (fun x => (x.1, mostS M x.2))
  | 0, _, _ => rfl
  | f + 1, r, s => by
    unfold rowF
    have e1 : (mostS M s).l = s.l := rfl
    have e2 : (mostS M s).at_ = s.at_ := rfl
    rw [e1, e2]
    by_cases h1 : want ≤ r.length
    · rw [if_pos h1, if_pos h1]; rfl
    rw [if_neg h1, if_neg h1]
    by_cases h2 : (takeF cnt ord s.l s.at_).2.1 ≠ 0
    · rw [if_pos h2, if_pos h2]; rfl
    rw [if_neg h2, if_neg h2]
    cases repF r (takeF cnt ord s.l s.at_).1 with
    | none => rfl
    | some q =>
      obtain ⟨v, n, b⟩ := q
      dsimp only
      by_cases h3 : 8 * s.l.length < (takeF cnt ord s.l s.at_).2.2 + b
      · rw [if_pos h3, if_pos h3]; rfl
      rw [if_neg h3, if_neg h3]
      by_cases h4 : want - r.length < n + numL s.l (takeF cnt ord s.l s.at_).2.2 b
      · rw [if_pos h4, if_pos h4]; rfl
      rw [if_neg h4, if_neg h4]
      exact rowF_most M cnt ord want f _ { s with at_ := (takeF cnt ord s.l s.at_).2.2 + b }
theorem codesF_most (M : Nat) (s : IS) : codesF (mostS M s) = (codesF s).map (fun x => (x.1, x.2.1, mostS M x.2.2)) := by
  unfold codesF
  rw [headsF_most]
  cases headsF s with
  | error e => rfl
  | ok H =>
    obtain ⟨p, q, r⟩ := H
    dsimp only
    have e1 : (mostS M s).l = s.l := rfl
    have e2 : (mostS M s).at_ = s.at_ := rfl
    have e3 : (⟨(mostS M s).l, s.at_ + 14 + 3 * r, (mostS M s).all, (mostS M s).from_, (mostS M s).most⟩ : IS) = mostS M { s with at_ := s.at_ + 14 + 3 * r } := rfl
    rw [e2, e3, e1, rowF_most]
    by_cases h1 : 286 < p ∨ 30 < q
    · rw [if_pos h1, if_pos h1]; rfl
    rw [if_neg h1, if_neg h1]
    by_cases h2 : 8 * s.l.length < s.at_ + 14 + 3 * r
    · rw [if_pos h2, if_pos h2]; rfl
    rw [if_neg h2, if_neg h2]
    by_cases h3 : wholeB (cntK (lensK s.l (s.at_ + 14) r) 19) = false
    · rw [if_pos h3, if_pos h3]; rfl
    rw [if_neg h3, if_neg h3]
    obtain ⟨R, hR⟩ : ∃ R, R = rowF (cntK (lensK s.l (s.at_ + 14) r) 19) (ordA (lensK s.l (s.at_ + 14) r) 15) (p + q) (p + q + 1) [] { s with at_ := s.at_ + 14 + 3 * r } := ⟨_, rfl⟩
    rw [← hR]
    clear hR
    cases R with
    | error e => rfl
    | ok R =>
      obtain ⟨row, s1⟩ := R
      simp only [Except.map]
      by_cases h7 : wholeB (cntK (row.take p) p) = false
      · rw [if_pos h7, if_pos h7]
      rw [if_neg h7, if_neg h7]
      by_cases h8 : row.getD 256 0 = 0
      · rw [if_pos h8, if_pos h8]
      rw [if_neg h8, if_neg h8]
      by_cases h9 : wholeB (cntK (row.drop p) q) = false
      · rw [if_pos h9, if_pos h9]
      rw [if_neg h9, if_neg h9]

/-! ### What comes out grows -/
theorem copyF_grow {cnt ord : List Nat} {s s' : IS} {y : Nat} (hf : Fine s) (hy : 256 < y) (h : copyF cnt ord s y = .ok s') : s.all.length ≤ s'.all.length := by
  unfold copyF at h
  cases h1 : lenF s y with
  | error e => rw [h1] at h; cases h
  | ok r =>
    obtain ⟨n, s1⟩ := r
    rw [h1] at h
    dsimp only at h
    obtain ⟨g1, a1, a2, a3, a4, a5⟩ := lenF_fine hf hy h1
    cases h2 : distF cnt ord s1 with
    | error e => rw [h2] at h; cases h
    | ok r =>
      obtain ⟨b, s2⟩ := r
      rw [h2] at h
      dsimp only at h
      obtain ⟨g2, b1, b2, b3, b4, b5⟩ := distF_fine g1 h2
      split at h
      · cases h
      split at h
      · cases h
      cases h
      dsimp only
      rw [copyAll_len, b4, a4]; omega
theorem symF_grow {cnt ord cntD ordD : List Nat} : ∀ (f : Nat) {s s' : IS}, Fine s → symF cnt ord cntD ordD f s = .ok s' → s.all.length ≤ s'.all.length
  | 0, _, _, _, h => by cases h
  | f + 1, s, s', hf, h => by
    obtain ⟨f1, f2, f3, f4, f5⟩ := hf
    obtain ⟨p1, p2, p3⟩ := takeF_pos cnt ord s.l s.at_ f2
    unfold symF at h
    obtain ⟨T, eT⟩ : ∃ T, T = takeF cnt ord s.l s.at_ := ⟨_, rfl⟩
    rw [← eT] at p1 p2 p3 h
    obtain ⟨y, er, p⟩ := T
    dsimp only at p1 p2 p3 h
    by_cases h3 : er ≠ 0
    · rw [if_pos h3] at h; cases h
    rw [if_neg h3] at h
    by_cases h4 : y = 256
    · rw [if_pos h4] at h; cases h; exact Nat.le_refl _
    rw [if_neg h4] at h
    by_cases h5 : 256 < y
    · rw [if_pos h5] at h
      have hfp : Fine { s with at_ := p } := ⟨f1, p2, f3, f4, f5⟩
      cases hX : copyF cntD ordD { s with at_ := p } y with
      | error e => rw [hX] at h; cases h
      | ok s1 =>
        rw [hX] at h
        have g := copyF_grow hfp h5 hX
        have g2 := symF_grow f (copyF_fine hfp h5 hX).1 h
        dsimp only at g
        omega
    rw [if_neg h5] at h
    by_cases h6 : s.most < s.all.length - s.from_ + 1
    · rw [if_pos h6] at h; cases h
    rw [if_neg h6] at h
    have g2 := symF_grow f (s := { s with at_ := p, all := s.all ++ [UInt8.ofNat y] }) ⟨f1, p2, by dsimp only; rw [List.length_append]; omega, by dsimp only; rw [List.length_append]; simp; omega, f5⟩ h
    dsimp only at g2
    rw [List.length_append] at g2
    omega

/-! ### With less room -/
theorem copyF_more {cnt ord : List Nat} {M : Nat} {s : IS} {y : Nat} (hf : Fine s) (hy : 256 < y) : MorR M (mostS M) (fun x => x) (copyF cnt ord (mostS M s) y) (copyF cnt ord s y) := by
  unfold copyF
  rw [lenF_most]
  cases hX : lenF s y with
  | error e => exact .err
  | ok r =>
    obtain ⟨n, s1⟩ := r
    obtain ⟨g1, a1, a2, a3, a4, a5⟩ := lenF_fine hf hy hX
    simp only [Except.map]
    rw [distF_most]
    cases hD : distF cnt ord s1 with
    | error e => exact .err
    | ok r =>
      obtain ⟨b, s2⟩ := r
      obtain ⟨g2, b1, b2, b3, b4, b5⟩ := distF_fine g1 hD
      obtain ⟨_, _, q3, _, _⟩ := g2
      simp only [Except.map]
      have e1 : (mostS M s2).all = s2.all := rfl
      have e2 : (mostS M s2).most = M := rfl
      have e3 : (mostS M s2).from_ = s2.from_ := rfl
      rw [e1, e2, e3]
      by_cases h3 : s2.all.length < b
      · rw [if_pos h3, if_pos h3]; exact .err
      rw [if_neg h3, if_neg h3]
      by_cases h4 : s2.most < s2.all.length - s2.from_ + n
      · rw [if_pos h4]; exact .err
      rw [if_neg h4]
      by_cases h5 : M < s2.all.length - s2.from_ + n
      · rw [if_pos h5]
        exact .inr ⟨by dsimp only; rw [copyAll_len]; omega, rfl⟩
      · rw [if_neg h5]
        exact .inl ⟨by dsimp only; rw [copyAll_len]; omega, rfl⟩
theorem symF_more {cnt ord cntD ordD : List Nat} {M : Nat} : ∀ (f : Nat) (s : IS), Fine s → s.all.length - s.from_ ≤ M → MorR M (mostS M) (fun x => x) (symF cnt ord cntD ordD f (mostS M s)) (symF cnt ord cntD ordD f s)
  | 0, _, _, _ => .err
  | f + 1, s, hf, hM => by
    obtain ⟨f1, f2, f3, f4, f5⟩ := hf
    obtain ⟨p1, p2, p3⟩ := takeF_pos cnt ord s.l s.at_ f2
    unfold symF
    have e1 : (mostS M s).l = s.l := rfl
    have e2 : (mostS M s).at_ = s.at_ := rfl
    have e3 : (mostS M s).all = s.all := rfl
    have e4 : (mostS M s).from_ = s.from_ := rfl
    have e5 : (mostS M s).most = M := rfl
    rw [e1, e2, e3, e4, e5]
    obtain ⟨T, eT⟩ : ∃ T, T = takeF cnt ord s.l s.at_ := ⟨_, rfl⟩
    rw [← eT] at p1 p2 p3 ⊢
    obtain ⟨y, er, p⟩ := T
    dsimp only at p1 p2 p3 ⊢
    by_cases h3 : er ≠ 0
    · rw [if_pos h3, if_pos h3]; exact .err
    rw [if_neg h3, if_neg h3]
    by_cases h4 : y = 256
    · rw [if_pos h4, if_pos h4]; exact .inl ⟨hM, rfl⟩
    rw [if_neg h4, if_neg h4]
    by_cases h5 : 256 < y
    · rw [if_pos h5, if_pos h5]
      have hfp : Fine { s with at_ := p } := ⟨f1, p2, f3, f4, f5⟩
      have h := copyF_more (cnt := cntD) (ord := ordD) (M := M) hfp h5
      have ec : mostS M { s with at_ := p } = ⟨s.l, p, s.all, s.from_, M⟩ := rfl
      rw [ec] at h
      obtain ⟨X, hX⟩ : ∃ X, X = copyF cntD ordD { s with at_ := p } y := ⟨_, rfl⟩
      have hfi := fun s' => @copyF_fine cntD ordD { s with at_ := p } s' y hfp h5
      rw [← hX] at h hfi ⊢
      clear hX
      cases X with
      | error e => exact .err
      | ok s1 =>
        obtain ⟨z1, _, z3, _, _⟩ := hfi s1 rfl
        rcases h.h with ⟨h6, hx⟩ | ⟨h6, hx⟩
        · rw [hx]
          exact symF_more f s1 z1 h6
        · rw [hx]
          refine MorR.late (fun a ha => ?_)
          have g := symF_grow f z1 ha
          obtain ⟨_, _, k3, _, _⟩ := symF_fine z1 ha
          have h6 : M < s1.all.length - s1.from_ := h6
          show M < a.all.length - a.from_
          omega
    rw [if_neg h5, if_neg h5]
    have hfn : s.most < s.all.length - s.from_ + 1 ∨ Fine { s with at_ := p, all := s.all ++ [UInt8.ofNat y] } := by
      by_cases h6 : s.most < s.all.length - s.from_ + 1
      · exact .inl h6
      · exact .inr ⟨f1, p2, by dsimp only; rw [List.length_append]; omega, by dsimp only; rw [List.length_append]; simp; omega, f5⟩
    by_cases h6 : s.most < s.all.length - s.from_ + 1
    · rw [if_pos h6]; exact .err
    rw [if_neg h6]
    have hfn := hfn.resolve_left h6
    by_cases h7 : M < s.all.length - s.from_ + 1
    · rw [if_pos h7]
      refine MorR.late (fun a ha => ?_)
      have g := symF_grow f hfn ha
      obtain ⟨_, _, k3, _, _⟩ := symF_fine hfn ha
      dsimp only at g k3 ⊢
      rw [List.length_append] at g
      simp at g
      omega
    · rw [if_neg h7]
      exact symF_more f { s with at_ := p, all := s.all ++ [UInt8.ofNat y] } hfn (by dsimp only; rw [List.length_append]; simp; omega)
end Go.Proofs.YtgmopcbfgcagaaaDoor
