/-
  What a shorter input makes of it. In plain.
-/
import Derived.Test.YtgmopcbfgcagaaaDoorJ9
namespace Go.Proofs.YtgmopcbfgcagaaaDoor
open Go V

def cutS (k : Nat) (s : IS) : IS := { s with l := s.l.take k }
/-- What is told of an input's first k bytes, held against what is told of all of it. -/
structure CutR {α : Type} (k : Nat) (g : α → α) (p : α → Nat) (x X : Except Nat α) : Prop where
  h : match X with
    | .ok a => (p a ≤ 8 * k ∧ x = .ok (g a)) ∨ (8 * k < p a ∧ x = .error 2)
    | .error _ => ∃ e, x = .error e
theorem CutR.inl {α : Type} {k : Nat} {g : α → α} {p : α → Nat} {x : Except Nat α} {a : α} (h : p a ≤ 8 * k ∧ x = .ok (g a)) : CutR k g p x (.ok a) := ⟨.inl h⟩
theorem CutR.inr {α : Type} {k : Nat} {g : α → α} {p : α → Nat} {x : Except Nat α} {a : α} (h : 8 * k < p a ∧ x = .error 2) : CutR k g p x (.ok a) := ⟨.inr h⟩
theorem CutR.late {α : Type} {k : Nat} {g : α → α} {p : α → Nat} {X : Except Nat α} (h : ∀ a, X = .ok a → 8 * k < p a) : CutR k g p (.error 2) X := by
  cases X with
  | error e => exact ⟨⟨2, rfl⟩⟩
  | ok a => exact .inr ⟨h a rfl, rfl⟩
theorem CutR.err {α : Type} {k : Nat} {g : α → α} {p : α → Nat} {e e' : Nat} : CutR k g p (.error e) (.error e') := ⟨⟨e, rfl⟩⟩

theorem bitL_take {L : List UInt8} {k i : Nat} (h : i < 8 * k) : bitL (L.take k) i = bitL L i := by
  unfold bitL
  rw [List.getD_eq_getElem?_getD, List.getElem?_take_of_lt (by omega), ← List.getD_eq_getElem?_getD]
theorem numL_take {L : List UInt8} {k p : Nat} : ∀ {n : Nat}, p + n ≤ 8 * k → numL (L.take k) p n = numL L p n
  | 0, _ => rfl
  | n + 1, h => by
    unfold numL
    rw [numL_take (n := n) (by omega), bitL_take (by omega)]
theorem cut_len {k : Nat} {s : IS} (h : k ≤ s.l.length) : (cutS k s).l.length = k := by
  show (s.l.take k).length = k
  rw [List.length_take]; omega

theorem takeK_cut {cnt ord : List Nat} {L : List UInt8} {k : Nat} (hk : k ≤ L.length) : ∀ f n code fst a p, p ≤ 8 * k →
    (takeK cnt ord (L.take k) f n code fst a p = takeK cnt ord L f n code fst a p ∧ (takeK cnt ord L f n code fst a p).2.2 ≤ 8 * k) ∨ ((takeK cnt ord (L.take k) f n code fst a p).2.1 = 2 ∧ ((takeK cnt ord L f n code fst a p).2.1 = 0 → 8 * k < (takeK cnt ord L f n code fst a p).2.2))
  | 0, n, code, fst, a, p, h => .inl ⟨rfl, h⟩
  | f + 1, n, code, fst, a, p, h => by
    have hpos := takeK_pos cnt ord L (f + 1) n code fst a p (by omega)
    have hl : (L.take k).length = k := by rw [List.length_take]; omega
    by_cases h1 : 8 * k < p + 1
    · by_cases h0 : ord.length ≤ a
      · left
        unfold takeK
        rw [if_pos h0, if_pos h0]
        exact ⟨rfl, h⟩
      · right
        refine ⟨?_, fun e => by have := hpos.2.2 e; omega⟩
        unfold takeK
        rw [if_neg h0, hl, if_pos h1]
    · unfold takeK
      rw [hl, bitL_take (by omega)]
      by_cases h0 : ord.length ≤ a
      · left
        rw [if_pos h0, if_pos h0]
        exact ⟨rfl, h⟩
      rw [if_neg h0, if_neg h0, if_neg h1, if_neg (show ¬ 8 * L.length < p + 1 by omega)]
      by_cases h2 : 2 * code + bitL L p - 2 * fst < cnt.getD n 0
      · left
        rw [if_pos h2, if_pos h2]
        exact ⟨rfl, by dsimp only; omega⟩
      · rw [if_neg h2, if_neg h2]
        exact takeK_cut hk f _ _ _ _ _ (by omega)
theorem takeF_cut {cnt ord : List Nat} {k : Nat} {s : IS} (hk : k ≤ s.l.length) (hp : s.at_ ≤ 8 * k) :
    (takeF cnt ord (cutS k s).l (cutS k s).at_ = takeF cnt ord s.l s.at_ ∧ (takeF cnt ord s.l s.at_).2.2 ≤ 8 * k) ∨ ((takeF cnt ord (cutS k s).l (cutS k s).at_).2.1 = 2 ∧ ((takeF cnt ord s.l s.at_).2.1 = 0 → 8 * k < (takeF cnt ord s.l s.at_).2.2)) :=
  takeK_cut hk 15 1 0 0 0 s.at_ hp

theorem lenF_cut {k : Nat} {s : IS} {y : Nat} (hk : k ≤ s.l.length) (hp : s.at_ ≤ 8 * k) : CutR k (fun x => (x.1, cutS k x.2)) (fun x => x.2.at_) (lenF (cutS k s) y) (lenF s y) := by
  have hl := cut_len hk
  unfold lenF
  by_cases h1 : 286 ≤ y
  · rw [if_pos h1, if_pos h1]; exact CutR.err
  rw [if_neg h1, if_neg h1]
  by_cases h2 : y = 285
  · rw [if_pos h2, if_pos h2]; exact .inl ⟨hp, rfl⟩
  rw [if_neg h2, if_neg h2]
  by_cases h3 : y < 265
  · rw [if_pos h3, if_pos h3]; exact .inl ⟨hp, rfl⟩
  rw [if_neg h3, if_neg h3, hl]
  have ha : (cutS k s).at_ = s.at_ := rfl
  rw [ha]
  by_cases h4 : 8 * k < s.at_ + (y - 261) / 4
  · rw [if_pos h4]
    refine CutR.late (fun a ha => ?_)
    split at ha
    · cases ha
    · cases ha
      exact h4
  · rw [if_neg h4, if_neg (by omega)]
    refine .inl ⟨by dsimp only; omega, ?_⟩
    have : numL (cutS k s).l s.at_ ((y - 261) / 4) = numL s.l s.at_ ((y - 261) / 4) := numL_take (by omega)
    rw [this]
    rfl
theorem distF_cut {cnt ord : List Nat} {k : Nat} {s : IS} (hk : k ≤ s.l.length) (hp : s.at_ ≤ 8 * k) : CutR k (fun x => (x.1, cutS k x.2)) (fun x => x.2.at_) (distF cnt ord (cutS k s)) (distF cnt ord s) := by
  have hl := cut_len hk
  unfold distF
  rcases takeF_cut (cnt := cnt) (ord := ord) hk hp with ⟨h1, h2⟩ | ⟨h1, h2⟩
  · rw [h1, hl]
    obtain ⟨T, hT⟩ : ∃ T, T = takeF cnt ord s.l s.at_ := ⟨_, rfl⟩
    rw [← hT] at h2 ⊢
    by_cases h3 : T.2.1 ≠ 0
    · rw [if_pos h3, if_pos h3]; exact CutR.err
    rw [if_neg h3, if_neg h3]
    by_cases h4 : 30 ≤ T.1
    · rw [if_pos h4, if_pos h4]; exact CutR.err
    rw [if_neg h4, if_neg h4]
    by_cases h5 : T.1 < 4
    · rw [if_pos h5, if_pos h5]; exact .inl ⟨h2, rfl⟩
    rw [if_neg h5, if_neg h5]
    by_cases h6 : 8 * k < T.2.2 + (T.1 / 2 - 1)
    · rw [if_pos h6]
      refine CutR.late (fun a ha => ?_)
      split at ha
      · cases ha
      · cases ha
        exact h6
    · rw [if_neg h6, if_neg (by omega)]
      refine .inl ⟨by dsimp only; omega, ?_⟩
      have : numL (cutS k s).l T.2.2 (T.1 / 2 - 1) = numL s.l T.2.2 (T.1 / 2 - 1) := numL_take (by omega)
      rw [this]
      rfl
  · rw [if_pos (by omega), h1]
    refine CutR.late (fun a ha => ?_)
    split at ha
    · cases ha
    · rename_i g
      have := h2 (by omega)
      split at ha
      · cases ha
      split at ha
      · cases ha; exact this
      split at ha
      · cases ha
      · cases ha; dsimp only; omega
theorem copyF_cut {cnt ord : List Nat} {k : Nat} {s : IS} {y : Nat} (hf : Fine s) (hy : 256 < y) (hk : k ≤ s.l.length) (hp : s.at_ ≤ 8 * k) : CutR k (cutS k) (fun x => x.at_) (copyF cnt ord (cutS k s) y) (copyF cnt ord s y) := by
  have h := lenF_cut (y := y) hk hp
  unfold copyF
  cases hX : lenF s y with
  | error e => rw [hX] at h; obtain ⟨e', hx⟩ := h.h; rw [hx]; exact CutR.err
  | ok r =>
    obtain ⟨n, s1⟩ := r
    obtain ⟨g1, a1, a2, a3, a4, a5⟩ := lenF_fine hf hy hX
    rw [hX] at h
    have late : 8 * k < s1.at_ → ∀ a, (match distF cnt ord s1 with | .error e => .error e | .ok (b, s2) => if s2.all.length < b then .error 10 else if s2.most < s2.all.length - s2.from_ + n then .error 3 else .ok { s2 with all := copyAll s2.all b n }) = Except.ok a → 8 * k < a.at_ := by
      intro h1 a ha
      cases hD : distF cnt ord s1 with
      | error e => rw [hD] at ha; cases ha
      | ok r =>
        obtain ⟨b, s2⟩ := r
        obtain ⟨_, _, _, _, _, b5⟩ := distF_fine g1 hD
        rw [hD] at ha
        dsimp only at ha
        split at ha
        · cases ha
        split at ha
        · cases ha
        · cases ha; dsimp only; omega
    rcases h.h with ⟨h1, hx⟩ | ⟨h1, hx⟩
    · rw [hx]
      dsimp only at h1 ⊢
      have h' := distF_cut (cnt := cnt) (ord := ord) (s := s1) (k := k) (by rw [a1]; exact hk) h1
      cases hD : distF cnt ord s1 with
      | error e => rw [hD] at h'; obtain ⟨e', hx⟩ := h'.h; rw [hx]; exact CutR.err
      | ok r =>
        obtain ⟨b, s2⟩ := r
        rw [hD] at h'
        rcases h'.h with ⟨h2, hx⟩ | ⟨h2, hx⟩
        · rw [hx]
          dsimp only at h2 ⊢
          have e1 : (cutS k s2).all = s2.all := rfl
          have e2 : (cutS k s2).most = s2.most := rfl
          have e3 : (cutS k s2).from_ = s2.from_ := rfl
          rw [e1, e2, e3]
          by_cases h3 : s2.all.length < b
          · rw [if_pos h3, if_pos h3]; exact CutR.err
          rw [if_neg h3, if_neg h3]
          by_cases h4 : s2.most < s2.all.length - s2.from_ + n
          · rw [if_pos h4, if_pos h4]; exact CutR.err
          rw [if_neg h4, if_neg h4]
          exact .inl ⟨h2, rfl⟩
        · rw [hx]
          dsimp only at h2 ⊢
          refine CutR.late (fun a ha => ?_)
          split at ha
          · cases ha
          split at ha
          · cases ha
          · cases ha; exact h2
    · rw [hx]
      exact CutR.late (late h1)

theorem symF_cut {cnt ord cntD ordD : List Nat} {k : Nat} : ∀ (f : Nat) (s : IS), Fine s → k ≤ s.l.length → s.at_ ≤ 8 * k → CutR k (cutS k) (fun x => x.at_) (symF cnt ord cntD ordD f (cutS k s)) (symF cnt ord cntD ordD f s)
  | 0, s, _, _, _ => CutR.err
  | f + 1, s, hf, hk, hp => by
    have hf0 := hf
    obtain ⟨f1, f2, f3, f4, f5⟩ := hf
    obtain ⟨p1, p2, p3⟩ := takeF_pos cnt ord s.l s.at_ f2
    have hT := takeF_cut (cnt := cnt) (ord := ord) hk hp
    unfold symF
    obtain ⟨T, eT⟩ : ∃ T, T = takeF cnt ord s.l s.at_ := ⟨_, rfl⟩
    rw [← eT] at hT p1 p2 p3 ⊢
    obtain ⟨y, er, p⟩ := T
    dsimp only at hT p1 p2 p3 ⊢
    have e2 : (cutS k s).most = s.most := rfl
    have e3 : (cutS k s).from_ = s.from_ := rfl
    have e4 : (cutS k s).all = s.all := rfl
    rcases hT with ⟨h1, h2⟩ | ⟨h1, h2⟩
    · rw [h1]
      dsimp only
      rw [e2, e3, e4]
      by_cases h3 : er ≠ 0
      · rw [if_pos h3, if_pos h3]; exact CutR.err
      rw [if_neg h3, if_neg h3]
      by_cases h4 : y = 256
      · rw [if_pos h4, if_pos h4]; exact .inl ⟨h2, rfl⟩
      rw [if_neg h4, if_neg h4]
      by_cases h5 : 256 < y
      · rw [if_pos h5, if_pos h5]
        have hfp : Fine { s with at_ := p } := ⟨f1, p2, f3, f4, f5⟩
        have h := copyF_cut (cnt := cntD) (ord := ordD) (y := y) hfp h5 (k := k) hk h2
        have ec : cutS k { s with at_ := p } = ⟨(cutS k s).l, p, s.all, s.from_, s.most⟩ := rfl
        rw [ec] at h
        cases hX : copyF cntD ordD { s with at_ := p } y with
        | error e => rw [hX] at h; obtain ⟨e', hx⟩ := h.h; rw [hx]; exact CutR.err
        | ok s1 =>
          obtain ⟨g1, a1, a2, a3, a4⟩ := copyF_fine hfp h5 hX
          rw [hX] at h
          rcases h.h with ⟨h6, hx⟩ | ⟨h6, hx⟩
          · rw [hx]
            exact symF_cut f s1 g1 (by rw [a1]; exact hk) h6
          · rw [hx]
            dsimp only at h6 ⊢
            refine CutR.late (fun a ha => ?_)
            obtain ⟨_, _, _, _, b4⟩ := symF_fine g1 ha
            omega
      rw [if_neg h5, if_neg h5]
      by_cases h6 : s.most < s.all.length - s.from_ + 1
      · rw [if_pos h6, if_pos h6]; exact CutR.err
      rw [if_neg h6, if_neg h6]
      exact symF_cut f { s with at_ := p, all := s.all ++ [UInt8.ofNat y] } ⟨f1, p2, by dsimp only; rw [List.length_append]; omega, by dsimp only; rw [List.length_append]; simp; omega, f5⟩ hk h2
    · rw [if_pos (by omega), h1]
      refine CutR.late (fun a ha => ?_)
      by_cases h3 : er ≠ 0
      · rw [if_pos h3] at ha; cases ha
      rw [if_neg h3] at ha
      have h2 := h2 (by omega)
      by_cases h4 : y = 256
      · rw [if_pos h4] at ha; cases ha; exact h2
      rw [if_neg h4] at ha
      by_cases h5 : 256 < y
      · rw [if_pos h5] at ha
        cases hX : copyF cntD ordD { s with at_ := p } y with
        | error e => rw [hX] at ha; cases ha
        | ok s1 =>
          obtain ⟨g1, a1, a2, a3, a4⟩ := copyF_fine (s := { s with at_ := p }) ⟨f1, p2, f3, f4, f5⟩ h5 hX
          rw [hX] at ha
          obtain ⟨_, _, _, _, b4⟩ := symF_fine g1 ha
          dsimp only at a4
          omega
      rw [if_neg h5] at ha
      by_cases h6 : s.most < s.all.length - s.from_ + 1
      · rw [if_pos h6] at ha; cases ha
      rw [if_neg h6] at ha
      obtain ⟨_, _, _, _, b4⟩ := symF_fine (s := { s with at_ := p, all := s.all ++ [UInt8.ofNat y] }) ⟨f1, p2, by dsimp only; rw [List.length_append]; omega, by dsimp only; rw [List.length_append]; simp; omega, f5⟩ ha
      dsimp only at b4
      omega
/-- More fuel than is needed changes nothing. -/
theorem symF_fuel {cnt ord cntD ordD : List Nat} : ∀ (f g : Nat) (s : IS), Fine s → 8 * s.l.length < s.at_ + f → 8 * s.l.length < s.at_ + g → symF cnt ord cntD ordD f s = symF cnt ord cntD ordD g s
  | 0, _, s, hf, h, _ => by have := hf.2.1; omega
  | _ + 1, 0, s, hf, _, h => by have := hf.2.1; omega
  | f + 1, g + 1, s, hf, h, h' => by
    obtain ⟨f1, f2, f3, f4, f5⟩ := hf
    obtain ⟨p1, p2, p3⟩ := takeF_pos cnt ord s.l s.at_ f2
    unfold symF
    obtain ⟨T, eT⟩ : ∃ T, T = takeF cnt ord s.l s.at_ := ⟨_, rfl⟩
    rw [← eT] at p1 p2 p3 ⊢
    obtain ⟨y, er, p⟩ := T
    dsimp only at p1 p2 p3 ⊢
    by_cases h3 : er ≠ 0
    · rw [if_pos h3, if_pos h3]
    rw [if_neg h3, if_neg h3]
    have p3 := p3 (by omega)
    by_cases h4 : y = 256
    · rw [if_pos h4, if_pos h4]
    rw [if_neg h4, if_neg h4]
    by_cases h5 : 256 < y
    · rw [if_pos h5, if_pos h5]
      cases hX : copyF cntD ordD { s with at_ := p } y with
      | error e => rfl
      | ok s1 =>
        obtain ⟨g1, a1, a2, a3, a4⟩ := copyF_fine (s := { s with at_ := p }) ⟨f1, p2, f3, f4, f5⟩ h5 hX
        dsimp only at a1 a4 ⊢
        exact symF_fuel f g s1 g1 (by rw [a1]; omega) (by rw [a1]; omega)
    rw [if_neg h5, if_neg h5]
    by_cases h6 : s.most < s.all.length - s.from_ + 1
    · rw [if_pos h6, if_pos h6]
    rw [if_neg h6, if_neg h6]
    exact symF_fuel f g { s with at_ := p, all := s.all ++ [UInt8.ofNat y] } ⟨f1, p2, by dsimp only; rw [List.length_append]; omega, by dsimp only; rw [List.length_append]; simp; omega, f5⟩ (by dsimp only; omega) (by dsimp only; omega)
end Go.Proofs.YtgmopcbfgcagaaaDoor
