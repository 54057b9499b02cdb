/-
  Tables of lengths; what a row of lengths says. In plain.
-/
import Derived.Test.YtgmopcbfgcagaaaDoorI15
namespace Go.Proofs.YtgmopcbfgcagaaaDoor
open Go V

theorem Sl.cutN {w : World} {n c l h : Nat} {A : Option Addr} {xs : List Nat} (hs : Sl w 1 A n (xs.map nv)) (hl : l ≤ h) (hh : h ≤ n) (hc : n ≤ c) {A' : Option Addr}
    (hA : A' = if c = l then A else A.map (·.add (l * 1))) : Sl w 1 A' (h - l) (((xs.take h).drop l).map nv) := by
  have := Sl.cut hs hl hh hc hA
  rwa [Nat.mul_one, Nat.mul_one, ← List.map_take, ← List.map_drop] at this

/-! ### A table made of lengths may be asked -/
theorem ordS_succ (lens : List Nat) (i k : Nat) : (ordS lens i (k + 1)).length = (ordS lens i k).length + if lens.getD k 0 = i then 1 else 0 := by
  unfold ordS
  rw [List.range_succ, List.filter_append, List.length_append]
  simp only [List.filter_cons, List.filter_nil, beq_iff_eq]
  split <;> simp
theorem cnt_ord (lens : List Nat) {i : Nat} (h1 : 1 ≤ i) (h2 : i ≤ 15) (k : Nat) : (cntK lens k).getD i 0 = (ordS lens i k).length := by
  induction k with
  | zero =>
    have e : ∀ j, (List.replicate 16 0).getD j 0 = 0 := fun j => by
      rw [List.getD_eq_getElem?_getD, List.getElem?_replicate]; split <;> rfl
    exact e i
  | succ k ih =>
    rw [ordS_succ]
    have hl := cntK_len lens k
    unfold cntK
    by_cases h0 : 0 < lens.getD k 0
    · rw [if_pos h0]
      by_cases he : lens.getD k 0 = i
      · rw [if_pos he, he, List.getD_eq_getElem?_getD, List.getElem?_set_self (by omega), Option.getD_some, ih]
      · rw [if_neg he, List.getD_eq_getElem?_getD, List.getElem?_set_ne (by omega), ← List.getD_eq_getElem?_getD, ih]; rfl
    · rw [if_neg h0, if_neg (by omega), ih]; rfl
theorem pre_ord (lens : List Nat) : ∀ m, m ≤ 15 → preK (cntK lens lens.length) m = (ordA lens m).length := by
  intro m
  induction m with
  | zero => intro _; rfl
  | succ m ih =>
    intro h
    rw [preK, ih (by omega), cnt_ord lens (by omega) h, ordA, List.length_append]
theorem ordA_mono (lens : List Nat) {a : Nat} : ∀ {b : Nat}, a ≤ b → (ordA lens a).length ≤ (ordA lens b).length := by
  intro b
  induction b with
  | zero => intro h; obtain rfl : a = 0 := by omega
            exact Nat.le_refl _
  | succ b ih =>
    intro h
    rcases Nat.lt_or_ge a (b + 1) with h1 | h1
    · have := ih (by omega)
      rw [show ordA lens (b + 1) = ordA lens b ++ ordS lens (b + 1) lens.length from rfl, List.length_append]; omega
    · obtain rfl : a = b + 1 := by omega
      exact Nat.le_refl _
theorem ordA_lt (lens : List Nat) (m : Nat) : ∀ x ∈ ordA lens m, x < lens.length := by
  induction m with
  | zero => intro x hx; cases hx
  | succ m ih =>
    intro x hx
    rcases List.mem_append.1 hx with h | h
    · exact ih x h
    · exact List.mem_range.1 (List.mem_filter.1 h).1
theorem tbOk_lens (lens : List Nat) (h : lens.length ≤ 320) : TbOk (cntK lens lens.length) (ordA lens 15) := by
  refine ⟨fun n hn => ?_, ?_, fun x hx => ?_⟩
  · rw [pre_ord lens n hn]; exact ordA_mono lens hn
  · have := ordA_len lens 15; omega
  · have := ordA_lt lens 15 x hx; omega

/-! ### What a row of lengths says -/
theorem takeK_lt {b : Nat} (hb : 0 < b) (cnt ord : List Nat) (l : List UInt8) (h : ∀ x ∈ ord, x < b) : ∀ f n code fst a p, (takeK cnt ord l f n code fst a p).1 < b
  | 0, n, code, fst, a, p => by simp [takeK, hb]
  | f + 1, n, code, fst, a, p => by
    unfold takeK
    split
    · exact hb
    split
    · exact hb
    split
    · dsimp only
      rw [List.getD_eq_getElem?_getD]
      rcases Nat.lt_or_ge (a + (2 * code + bitL l p - 2 * fst)) ord.length with h1 | h1
      · rw [List.getElem?_eq_getElem h1]; exact h _ (List.getElem_mem h1)
      · rw [List.getElem?_eq_none h1]; exact hb
    · exact takeK_lt hb cnt ord l h f _ _ _ _ _
theorem getD_le15 {r : List Nat} (h : ∀ x ∈ r, x ≤ 15) (i : Nat) : r.getD i 0 ≤ 15 := by
  rw [List.getD_eq_getElem?_getD]
  rcases Nat.lt_or_ge i r.length with h1 | h1
  · rw [List.getElem?_eq_getElem h1]; exact h _ (List.getElem_mem h1)
  · rw [List.getElem?_eq_none h1]; decide
theorem rep_le15 {r : List Nat} {y v n b : Nat} (hr : ∀ x ∈ r, x ≤ 15) (hy : y < 19) (h : repF r y = some (v, n, b)) : v ≤ 15 ∧ 1 ≤ n := by
  unfold repF at h
  split at h
  · split at h
    · cases h
    · obtain ⟨rfl, h2⟩ := Prod.mk.inj (Option.some.inj h)
      obtain ⟨rfl, rfl⟩ := Prod.mk.inj h2
      exact ⟨getD_le15 hr _, by omega⟩
  split at h
  · obtain ⟨rfl, h2⟩ := Prod.mk.inj (Option.some.inj h)
    obtain ⟨rfl, rfl⟩ := Prod.mk.inj h2
    omega
  split at h
  · obtain ⟨rfl, h2⟩ := Prod.mk.inj (Option.some.inj h)
    obtain ⟨rfl, rfl⟩ := Prod.mk.inj h2
    omega
  · obtain ⟨rfl, h2⟩ := Prod.mk.inj (Option.some.inj h)
    obtain ⟨rfl, rfl⟩ := Prod.mk.inj h2
    omega
theorem rowF_fine {cnt ord : List Nat} (ho : ∀ x ∈ ord, x < 19) {want : Nat} : ∀ (f : Nat) (r : List Nat) (s : IS) {r' : List Nat} {s' : IS}, Fine s → (∀ x ∈ r, x ≤ 15) → r.length ≤ want → rowF cnt ord want f r s = .ok (r', s') →
    Fine s' ∧ (∀ x ∈ r', x ≤ 15) ∧ r'.length = want ∧ s'.l = s.l ∧ s'.all = s.all ∧ s'.from_ = s.from_ ∧ s'.most = s.most ∧ s.at_ ≤ s'.at_
  | 0, _, _, _, _, _, _, _, h => by cases h
  | f + 1, r, s, r', s', hf, hr, hl, h => by
    obtain ⟨f1, f2, f3, f4, f5⟩ := hf
    have hsym := takeK_lt (by omega) cnt ord s.l ho 15 1 0 0 0 s.at_
    obtain ⟨hp1, hp2, _⟩ := takeF_pos cnt ord s.l s.at_ f2
    unfold rowF at h
    split at h
    · obtain ⟨rfl, rfl⟩ := Prod.mk.inj (Except.ok.inj h)
      exact ⟨⟨f1, f2, f3, f4, f5⟩, hr, by omega, rfl, rfl, rfl, rfl, Nat.le_refl _⟩
    split at h
    · cases h
    split at h
    · cases h
    · rename_i v n b hrep
      obtain ⟨hv, hn⟩ := rep_le15 hr hsym hrep
      split at h
      · cases h
      split at h
      · cases h
      · rename_i g1 g2
        have hr2 : ∀ x ∈ r ++ List.replicate (n + numL s.l (takeF cnt ord s.l s.at_).2.2 b) v, x ≤ 15 := by
          intro x hx
          rcases List.mem_append.1 hx with h | h
          · exact hr x h
          · rw [(List.mem_replicate.1 h).2]; exact hv
        obtain ⟨q1, q2, q3, q4, q5, q6, q7, q8⟩ := rowF_fine ho f _ { s with at_ := (takeF cnt ord s.l s.at_).2.2 + b } ⟨f1, by dsimp only; omega, f3, f4, f5⟩ hr2 (by rw [List.length_append, List.length_replicate]; omega) h
        exact ⟨q1, q2, q3, q4, q5, q6, q7, by dsimp only at q8; omega⟩

/-! ### The lengths of the first code -/
def ordN : List Nat := [16, 17, 18, 0, 8, 7, 9, 6, 10, 5, 11, 4, 12, 3, 13, 2, 14, 1, 15]
def lensK (l : List UInt8) (a : Nat) : Nat → List Nat
  | 0 => List.replicate 19 0
  | k + 1 => (lensK l a k).set (ordN.getD k 0) (numL l (a + 3 * k) 3)
theorem lensK_len (l : List UInt8) (a k : Nat) : (lensK l a k).length = 19 := by
  induction k with
  | zero => simp [lensK]
  | succ k ih => rw [lensK, List.length_set, ih]
theorem lensK_le (l : List UInt8) (a k : Nat) : ∀ x ∈ lensK l a k, x ≤ 15 := by
  induction k with
  | zero => intro x hx; rw [(List.mem_replicate.1 hx).2]; omega
  | succ k ih =>
    intro x hx
    rcases List.mem_or_eq_of_mem_set hx with h | h
    · exact ih x h
    · have := numL_lt l (a + 3 * k) 3
      omega
theorem ordN_lt {k : Nat} (h : k < 19) : ordN.getD k 0 < 19 := by
  have : ∀ x ∈ ordN, x < 19 := by decide
  rw [List.getD_eq_getElem?_getD, List.getElem?_eq_getElem h]
  exact this _ (List.getElem_mem h)

/-- The lengths of both codes of a dynamic block. -/
def codesF (s : IS) : Except Nat (List Nat × List Nat × IS) :=
  match headsF s with
  | .error e => .error e
  | .ok (p, q, r) =>
    if 286 < p ∨ 30 < q then .error 10 else
    if 8 * s.l.length < s.at_ + 14 + 3 * r then .error 2 else
    if wholeB (cntK (lensK s.l (s.at_ + 14) r) 19) = false then .error 10 else
    match rowF (cntK (lensK s.l (s.at_ + 14) r) 19) (ordA (lensK s.l (s.at_ + 14) r) 15) (p + q) (p + q + 1) [] { s with at_ := s.at_ + 14 + 3 * r } with
    | .error e => .error e
    | .ok (row, s') =>
      if wholeB (cntK (row.take p) p) = false then .error 10 else
      if row.getD 256 0 = 0 then .error 10 else
      if wholeB (cntK (row.drop p) q) = false then .error 10 else
      .ok (row.take p, row.drop p, s')
theorem codesF_fine {s s' : IS} {a b : List Nat} (hf : Fine s) (h : codesF s = .ok (a, b, s')) : Fine s' ∧ a.length ≤ 286 ∧ b.length ≤ 30 ∧ (∀ x ∈ a, x ≤ 15) ∧ (∀ x ∈ b, x ≤ 15) ∧ s'.l = s.l ∧ s'.all = s.all ∧ s'.from_ = s.from_ ∧ s'.most = s.most ∧ s.at_ ≤ s'.at_ := by
  obtain ⟨f1, f2, f3, f4, f5⟩ := hf
  unfold codesF at h
  split at h
  · cases h
  · rename_i p q r hh
    split at h
    · cases h
    split at h
    · cases h
    split at h
    · cases h
    split at h
    · cases h
    · rename_i g1 g2 g3 row s1 hrow
      have ho : ∀ x ∈ ordA (lensK s.l (s.at_ + 14) r) 15, x < 19 := fun x hx => by
        have := ordA_lt _ _ x hx
        rwa [lensK_len] at this
      obtain ⟨q1, q2, q3, q4, q5, q6, q7, q8⟩ := rowF_fine ho _ _ { s with at_ := s.at_ + 14 + 3 * r } ⟨f1, by dsimp only; omega, f3, f4, f5⟩ (fun x hx => by cases hx) (by simp) hrow
      split at h
      · cases h
      split at h
      · cases h
      split at h
      · cases h
      · obtain ⟨rfl, h2⟩ := Prod.mk.inj (Except.ok.inj h)
        obtain ⟨rfl, rfl⟩ := Prod.mk.inj h2
        refine ⟨q1, by rw [List.length_take]; omega, by rw [List.length_drop]; omega, fun x hx => q2 x (List.mem_of_mem_take hx), fun x hx => q2 x (List.mem_of_mem_drop hx), q4, q5, q6, q7, by dsimp only at q8; omega⟩
end Go.Proofs.YtgmopcbfgcagaaaDoor
