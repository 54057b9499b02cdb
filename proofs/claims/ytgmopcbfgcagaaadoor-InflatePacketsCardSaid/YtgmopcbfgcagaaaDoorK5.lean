/-
  The document's table, in plain: its codes are the canonical ones, and the next symbol by it is the one by the program's table.
-/
import Derived.Test.YtgmopcbfgcagaaaDoorK4
namespace Go.Proofs.YtgmopcbfgcagaaaDoor
open Go V

/-- The first number behind the codes of n bits. -/
def fstK (cnt : List Nat) : Nat → Nat
  | 0 => 0
  | n + 1 => 2 * fstK cnt n + cnt.getD (n + 1) 0
def codeN (lens : List Nat) (i : Nat) : Nat := if lens.getD i 0 = 0 then 0 else 2 * fstK (cntK lens lens.length) (lens.getD i 0 - 1) + (ordS lens (lens.getD i 0) i).length
def codesN (lens : List Nat) : List Nat := (List.range lens.length).map (codeN lens)
theorem codesN_len (lens : List Nat) : (codesN lens).length = lens.length := by simp [codesN]
theorem codesN_at (lens : List Nat) {i : Nat} (h : i < lens.length) : (codesN lens).getD i 0 = codeN lens i := by
  unfold codesN
  rw [List.getD_eq_getElem?_getD, List.getElem?_map, List.getElem?_range h]; rfl

theorem fst_sum (cnt : List Nat) : ∀ n, n ≤ 15 → fstK cnt n * 2 ^ (15 - n) = sumK cnt n := by
  intro n
  induction n with
  | zero => intro _; simp [fstK, sumK]
  | succ n ih =>
    intro h
    have e := ih (by omega)
    rw [show 15 - n = (15 - (n + 1)) + 1 from by omega, Nat.pow_succ] at e
    unfold fstK sumK
    rw [Nat.add_mul, ← e]
    congr 1
    rw [Nat.mul_comm 2, Nat.mul_assoc, Nat.mul_comm 2]
theorem sum_mono (cnt : List Nat) {a : Nat} : ∀ {b : Nat}, a ≤ b → sumK cnt a ≤ sumK cnt b := by
  intro b
  induction b with
  | zero => intro h; obtain rfl : a = 0 := by omega
            exact Nat.le_refl _
  | succ b ih =>
    intro h
    rcases Nat.lt_or_ge a (b + 1) with h1 | h1
    · have := ih (by omega)
      have e : sumK cnt (b + 1) = sumK cnt b + cnt.getD (b + 1) 0 * 2 ^ (15 - (b + 1)) := rfl
      omega
    · obtain rfl : a = b + 1 := by omega
      exact Nat.le_refl _
theorem pre_mono (cnt : List Nat) {a : Nat} : ∀ {b : Nat}, a ≤ b → preK cnt a ≤ preK cnt b := by
  intro b
  induction b with
  | zero => intro h; obtain rfl : a = 0 := by omega
            exact Nat.le_refl _
  | succ b ih =>
    intro h
    rcases Nat.lt_or_ge a (b + 1) with h1 | h1
    · have := ih (by omega)
      have e : preK cnt (b + 1) = preK cnt b + cnt.getD (b + 1) 0 := rfl
      omega
    · obtain rfl : a = b + 1 := by omega
      exact Nat.le_refl _
theorem sum_pre (cnt : List Nat) (m : Nat) : sumK cnt m ≤ preK cnt m * 16384 := by
  induction m with
  | zero => simp [sumK, preK]
  | succ m ih =>
    have hp : 2 ^ (15 - (m + 1)) ≤ 2 ^ 14 := Nat.pow_le_pow_right (by omega) (by omega)
    have := Nat.mul_le_mul (Nat.le_refl (cnt.getD (m + 1) 0)) hp
    unfold sumK preK
    rw [Nat.add_mul]; omega
theorem cnt_le_pre (cnt : List Nat) {i m : Nat} (h1 : 1 ≤ i) (h2 : i ≤ m) : cnt.getD i 0 + preK cnt (i - 1) ≤ preK cnt m := by
  have e : preK cnt i = preK cnt (i - 1) + cnt.getD i 0 := by
    obtain ⟨j, rfl⟩ : ∃ j, i = j + 1 := ⟨i - 1, by omega⟩
    rfl
  have := pre_mono cnt h2
  omega
theorem whole_sum {cnt : List Nat} (h : wholeB cnt = true) : sumK cnt 15 ≤ 32768 := by
  have h1 := sum_pre cnt 15
  unfold wholeB at h
  simp only [Bool.or_eq_true, Bool.and_eq_true, beq_iff_eq] at h
  omega
theorem whole_more {cnt : List Nat} (h : wholeB cnt = true) {n : Nat} (h1 : 1 ≤ n) (h2 : preK cnt n < preK cnt 15) : sumK cnt 15 = 32768 := by
  unfold wholeB at h
  simp only [Bool.or_eq_true, Bool.and_eq_true, beq_iff_eq] at h
  have := cnt_le_pre cnt (i := 1) (m := n) (by omega) h1
  omega
theorem fst_le {cnt : List Nat} (h : wholeB cnt = true) {n : Nat} (hn : n ≤ 15) : fstK cnt n ≤ 2 ^ n := by
  have h1 := whole_sum h
  have h2 := sum_mono cnt hn
  have h3 := fst_sum cnt n hn
  have h4 : 2 ^ n * 2 ^ (15 - n) = 32768 := by rw [← Nat.pow_add, show n + (15 - n) = 15 from by omega]
  exact Nat.le_of_mul_le_mul_right (by omega : fstK cnt n * 2 ^ (15 - n) ≤ 2 ^ n * 2 ^ (15 - n)) (Nat.pow_pos (by omega))

/-! ### Symbols of one length, by their rank -/
theorem ordS_mono (lens : List Nat) (n : Nat) {a : Nat} : ∀ {b : Nat}, a ≤ b → (ordS lens n a).length ≤ (ordS lens n b).length := by
  intro b
  induction b with
  | zero => intro h; obtain rfl : a = 0 := by omega
            exact Nat.le_refl _
  | succ b ih =>
    intro h
    rcases Nat.lt_or_ge a (b + 1) with h1 | h1
    · have := ih (by omega)
      rw [ordS_succ]; omega
    · obtain rfl : a = b + 1 := by omega
      exact Nat.le_refl _
theorem ordS_snoc (lens : List Nat) (n k : Nat) : ordS lens n (k + 1) = ordS lens n k ++ (if lens.getD k 0 = n then [k] else []) := by
  unfold ordS
  rw [List.range_succ, List.filter_append]
  congr 1
  by_cases h0 : lens.getD k 0 = n
  · rw [if_pos h0]; simp only [List.filter_cons, h0, beq_self_eq_true, if_true, List.filter_nil]
  · rw [if_neg h0]; simp only [List.filter_cons, List.filter_nil, beq_iff_eq, h0, if_false]
theorem ordS_rank (lens : List Nat) (n : Nat) : ∀ (k r : Nat), r < (ordS lens n k).length → (ordS lens n k).getD r 0 < k ∧ lens.getD ((ordS lens n k).getD r 0) 0 = n ∧ (ordS lens n ((ordS lens n k).getD r 0)).length = r := by
  intro k
  induction k with
  | zero => intro r h; simp [ordS] at h
  | succ k ih =>
    intro r h
    rw [ordS_snoc] at h ⊢
    rcases Nat.lt_or_ge r (ordS lens n k).length with h1 | h1
    · have e : (ordS lens n k ++ (if lens.getD k 0 = n then [k] else [])).getD r 0 = (ordS lens n k).getD r 0 := by
        rw [List.getD_eq_getElem?_getD, List.getElem?_append_left h1, ← List.getD_eq_getElem?_getD]
      rw [e]
      obtain ⟨g1, g2, g3⟩ := ih r h1
      exact ⟨by omega, g2, g3⟩
    · by_cases hn : lens.getD k 0 = n
      · rw [if_pos hn] at h ⊢
        rw [List.length_append] at h
        have hr : r = (ordS lens n k).length := by simp at h; omega
        have e : (ordS lens n k ++ [k]).getD r 0 = k := by
          rw [List.getD_eq_getElem?_getD, List.getElem?_append_right h1, hr, Nat.sub_self]; rfl
        rw [e]
        exact ⟨by omega, hn, hr.symm⟩
      · rw [if_neg hn, List.append_nil] at h
        omega
theorem rank_lt (lens : List Nat) {n j : Nat} (hj : j < lens.length) (h : lens.getD j 0 = n) : (ordS lens n j).length < (ordS lens n lens.length).length := by
  have h1 := ordS_mono lens n (show j + 1 ≤ lens.length by omega)
  rw [ordS_succ, if_pos h] at h1
  omega
theorem rank_inj (lens : List Nat) {n i j : Nat} (hi : lens.getD i 0 = n) (hj : lens.getD j 0 = n) (h : (ordS lens n i).length = (ordS lens n j).length) : i = j := by
  rcases Nat.lt_trichotomy i j with h1 | h1 | h1
  · have h2 := ordS_mono lens n (show i + 1 ≤ j by omega)
    rw [ordS_succ, if_pos hi] at h2
    omega
  · exact h1
  · have h2 := ordS_mono lens n (show j + 1 ≤ i by omega)
    rw [ordS_succ, if_pos hj] at h2
    omega
theorem ordA_at (lens : List Nat) {n r : Nat} (h1 : 1 ≤ n) (hr : r < (ordS lens n lens.length).length) : ∀ m, n ≤ m → (ordA lens m).getD ((ordA lens (n - 1)).length + r) 0 = (ordS lens n lens.length).getD r 0 := by
  intro m
  induction m with
  | zero => intro h; omega
  | succ m ih =>
    intro h
    rw [show ordA lens (m + 1) = ordA lens m ++ ordS lens (m + 1) lens.length from rfl]
    rcases Nat.lt_or_ge m n with h2 | h2
    · obtain rfl : n = m + 1 := by omega
      rw [Nat.add_sub_cancel, List.getD_eq_getElem?_getD, List.getElem?_append_right (by omega), Nat.add_sub_cancel_left, ← List.getD_eq_getElem?_getD]
    · have e : ordA lens n = ordA lens (n - 1) ++ ordS lens n lens.length := by
        obtain ⟨q, rfl⟩ : ∃ q, n = q + 1 := ⟨n - 1, by omega⟩
        rfl
      have hl := ordA_mono lens h2
      rw [e, List.length_append] at hl
      rw [List.getD_eq_getElem?_getD, List.getElem?_append_left (by omega), ← List.getD_eq_getElem?_getD, ih h2]

/-! ### What code begins so -/
theorem begF_some (lens cods : List Nat) (code n : Nat) : ∀ (f i : Nat) (b : Bool), (begF lens cods code n f i b).1 = true ↔ (b = true ∨ ∃ j, i ≤ j ∧ j < i + f ∧ beg lens cods code n j = true) := by
  intro f
  induction f with
  | zero =>
    intro i b
    unfold begF
    constructor
    · intro h; exact .inl h
    · rintro (h | ⟨j, h1, h2, _⟩)
      · exact h
      · omega
  | succ f ih =>
    intro i b
    unfold begF
    by_cases hb : beg lens cods code n i = true
    · rw [if_pos hb]
      by_cases hl : lens.getD i 0 = n
      · rw [if_pos hl]
        exact ⟨fun _ => .inr ⟨i, by omega, by omega, hb⟩, fun _ => rfl⟩
      · rw [if_neg hl, ih]
        exact ⟨fun _ => .inr ⟨i, by omega, by omega, hb⟩, fun _ => .inl rfl⟩
    · rw [if_neg hb, ih]
      constructor
      · rintro (h | ⟨j, h1, h2, h3⟩)
        · exact .inl h
        · exact .inr ⟨j, by omega, by omega, h3⟩
      · rintro (h | ⟨j, h1, h2, h3⟩)
        · exact .inl h
        · rcases Nat.eq_or_lt_of_le h1 with e | e
          · subst e; exact absurd h3 hb
          · exact .inr ⟨j, by omega, by omega, h3⟩
theorem beg_own (lens cods : List Nat) (code : Nat) (i : Nat) {n : Nat} (h : lens.getD i 0 = n) : beg lens cods code n i = true ↔ cods.getD i 0 = code := by
  unfold beg
  rw [h, Nat.sub_self, Nat.pow_zero, Nat.div_one, Bool.and_eq_true, beq_iff_eq]
  exact ⟨fun h => h.2, fun h => ⟨decide_eq_true (Nat.le_refl _), h⟩⟩
theorem begF_hit (lens cods : List Nat) (code n j0 : Nat) (hl : lens.getD j0 0 = n) (hc : cods.getD j0 0 = code) : ∀ (f i : Nat) (b : Bool), i ≤ j0 → j0 < i + f → (∀ j, i ≤ j → j < i + f → lens.getD j 0 = n → cods.getD j 0 = code → j = j0) →
    (begF lens cods code n f i b).2 = (j0 : Int) := by
  intro f
  induction f with
  | zero => intro i b h1 h2; omega
  | succ f ih =>
    intro i b h1 h2 hu
    unfold begF
    by_cases hb : beg lens cods code n i = true
    · rw [if_pos hb]
      by_cases hn : lens.getD i 0 = n
      · rw [if_pos hn]
        have := hu i (by omega) (by omega) hn ((beg_own lens cods code i hn).1 hb)
        subst this
        rfl
      · rw [if_neg hn]
        have : i ≠ j0 := fun e => hn (by rw [e]; exact hl)
        exact ih (i + 1) true (by omega) (by omega) (fun j g1 g2 => hu j (by omega) (by omega))
    · rw [if_neg hb]
      have : i ≠ j0 := fun e => hb ((beg_own lens cods code i (by rw [e]; exact hl)).2 (by rw [e]; exact hc))
      exact ih (i + 1) b (by omega) (by omega) (fun j g1 g2 => hu j (by omega) (by omega))
theorem begF_miss (lens cods : List Nat) (code n : Nat) : ∀ (f i : Nat) (b : Bool), (∀ j, i ≤ j → j < i + f → lens.getD j 0 = n → cods.getD j 0 ≠ code) → (begF lens cods code n f i b).2 = -1 := by
  intro f
  induction f with
  | zero => intro i b _; rfl
  | succ f ih =>
    intro i b hu
    unfold begF
    by_cases hb : beg lens cods code n i = true
    · rw [if_pos hb]
      by_cases hn : lens.getD i 0 = n
      · exact absurd ((beg_own lens cods code i hn).1 hb) (hu i (by omega) (by omega) hn)
      · rw [if_neg hn]
        exact ih (i + 1) true (fun j g1 g2 => hu j (by omega) (by omega))
    · rw [if_neg hb]
      exact ih (i + 1) b (fun j g1 g2 => hu j (by omega) (by omega))

/-! ### The canonical codes -/
theorem codeN_own (lens : List Nat) {n i : Nat} (hn : 1 ≤ n) (h : lens.getD i 0 = n) : codeN lens i = 2 * fstK (cntK lens lens.length) (n - 1) + (ordS lens n i).length := by
  unfold codeN
  rw [h, if_neg (by omega)]
theorem fst_pred (cnt : List Nat) {n : Nat} (h : 1 ≤ n) : fstK cnt n = 2 * fstK cnt (n - 1) + cnt.getD n 0 := by
  obtain ⟨q, rfl⟩ : ∃ q, n = q + 1 := ⟨n - 1, by omega⟩
  rfl
theorem codeN_lt (lens : List Nat) {n i : Nat} (hn : 1 ≤ n) (hn15 : n ≤ 15) (hi : i < lens.length) (h : lens.getD i 0 = n) : codeN lens i < fstK (cntK lens lens.length) n := by
  rw [codeN_own lens hn h, fst_pred _ hn, cnt_ord lens hn hn15]
  have := rank_lt lens hi h
  omega
theorem sym_hit (lens : List Nat) {n c : Nat} (hn : 1 ≤ n) (hn15 : n ≤ 15) (h1 : 2 * fstK (cntK lens lens.length) (n - 1) ≤ c) (h2 : c - 2 * fstK (cntK lens lens.length) (n - 1) < (cntK lens lens.length).getD n 0) :
    (begF lens (codesN lens) c n lens.length 0 false).2 = ((ordA lens 15).getD (preK (cntK lens lens.length) (n - 1) + (c - 2 * fstK (cntK lens lens.length) (n - 1))) 0 : Nat) := by
  obtain ⟨r, hr⟩ : ∃ r, r = c - 2 * fstK (cntK lens lens.length) (n - 1) := ⟨_, rfl⟩
  rw [← hr] at h2 ⊢
  rw [cnt_ord lens hn hn15] at h2
  obtain ⟨g1, g2, g3⟩ := ordS_rank lens n lens.length r h2
  rw [pre_ord lens (n - 1) (by omega), ordA_at lens hn h2 15 hn15]
  refine begF_hit lens (codesN lens) c n _ g2 ?_ lens.length 0 false (by omega) (by omega) ?_
  · rw [codesN_at lens g1, codeN_own lens hn g2, g3]; omega
  · intro j _ hj hjn hjc
    rw [codesN_at lens (by omega), codeN_own lens hn hjn] at hjc
    exact rank_inj lens hjn g2 (by rw [g3]; omega)
theorem sym_miss (lens : List Nat) {n c : Nat} (hn : 1 ≤ n) (hn15 : n ≤ 15) (h1 : fstK (cntK lens lens.length) n ≤ c) : (begF lens (codesN lens) c n lens.length 0 false).2 = -1 := by
  refine begF_miss lens (codesN lens) c n lens.length 0 false fun j _ hj hjn hjc => ?_
  rw [codesN_at lens (by omega)] at hjc
  have := codeN_lt lens hn hn15 (by omega) hjn
  omega
theorem getD_mem15 {lens : List Nat} (h15 : ∀ x ∈ lens, x ≤ 15) (i : Nat) : lens.getD i 0 ≤ 15 := getD_le15 h15 i

/-- Some longer code begins so, just if there are longer ones. -/
theorem longer (lens : List Nat) (h15 : ∀ x ∈ lens, x ≤ 15) (hw : wholeB (cntK lens lens.length) = true) {n c : Nat} (hn : 1 ≤ n) (hn15 : n ≤ 15) (h1 : fstK (cntK lens lens.length) n ≤ c) (h2 : c < 2 ^ n) :
    (begF lens (codesN lens) c n lens.length 0 false).1 = true ↔ preK (cntK lens lens.length) n < (ordA lens 15).length := by
  rw [begF_some, ← pre_ord lens 15 (Nat.le_refl _)]
  obtain ⟨C, hC⟩ : ∃ C, C = cntK lens lens.length := ⟨_, rfl⟩
  constructor
  · rintro (h | ⟨j, _, hj, hb⟩)
    · cases h
    · unfold beg at hb
      rw [codesN_at lens (by omega), Bool.and_eq_true, decide_eq_true_eq, beq_iff_eq] at hb
      obtain ⟨b1, b2⟩ := hb
      have hl15 := getD_mem15 h15 j
      rcases Nat.eq_or_lt_of_le b1 with e | e
      · rw [← e, Nat.sub_self, Nat.pow_zero, Nat.div_one] at b2
        have := codeN_lt lens hn hn15 (by omega) e.symm
        omega
      · have hr := rank_lt lens (n := lens.getD j 0) (by omega : j < lens.length) rfl
        have hc := cnt_le_pre (cntK lens lens.length) (i := lens.getD j 0) (m := 15) (by omega) hl15
        rw [cnt_ord lens (by omega) hl15] at hc
        have hm := pre_mono (cntK lens lens.length) (show n ≤ lens.getD j 0 - 1 by omega)
        omega
  · intro h
    have hs := whole_more hw hn h
    have hF : fstK (cntK lens lens.length) 15 = 32768 := by
      have := fst_sum (cntK lens lens.length) 15 (Nat.le_refl _)
      rw [Nat.sub_self, Nat.pow_zero, Nat.mul_one] at this
      omega
    have key : ∀ m, n ≤ m → m ≤ 15 → fstK (cntK lens lens.length) m ≤ c * 2 ^ (m - n) ∨ ∃ q, n < q ∧ q ≤ m ∧ 2 * fstK (cntK lens lens.length) (q - 1) ≤ c * 2 ^ (q - n) ∧ c * 2 ^ (q - n) < fstK (cntK lens lens.length) q := by
      intro m
      induction m with
      | zero => intro h _; omega
      | succ m ih =>
        intro g1 g2
        rcases Nat.lt_or_ge m n with h3 | h3
        · obtain rfl : n = m + 1 := by omega
          rw [Nat.sub_self, Nat.pow_zero, Nat.mul_one]
          exact .inl h1
        · rcases ih h3 (by omega) with g | ⟨q, q1, q2, q3⟩
          · rcases Nat.lt_or_ge (c * 2 ^ (m + 1 - n)) (fstK (cntK lens lens.length) (m + 1)) with h4 | h4
            · refine .inr ⟨m + 1, by omega, Nat.le_refl _, ?_, h4⟩
              rw [Nat.add_sub_cancel, show m + 1 - n = (m - n) + 1 from by omega, Nat.pow_succ, ← Nat.mul_assoc]
              omega
            · exact .inl h4
          · exact .inr ⟨q, q1, by omega, q3⟩
    rcases key 15 hn15 (Nat.le_refl _) with g | ⟨q, q1, q2, q3, q4⟩
    · exfalso
      have : c * 2 ^ (15 - n) < 2 ^ n * 2 ^ (15 - n) := Nat.mul_lt_mul_of_pos_right h2 (Nat.pow_pos (by omega))
      rw [← Nat.pow_add, show n + (15 - n) = 15 from by omega] at this
      omega
    · rw [fst_pred _ (by omega : 1 ≤ q), cnt_ord lens (by omega) q2] at q4
      obtain ⟨g1, g2, g3⟩ := ordS_rank lens q lens.length (c * 2 ^ (q - n) - 2 * fstK (cntK lens lens.length) (q - 1)) (by omega)
      refine .inr ⟨(ordS lens q lens.length).getD (c * 2 ^ (q - n) - 2 * fstK (cntK lens lens.length) (q - 1)) 0, Nat.zero_le _, by omega, ?_⟩
      unfold beg
      rw [codesN_at lens g1, codeN_own lens (by omega) g2, g3, g2, Bool.and_eq_true, decide_eq_true_eq, beq_iff_eq]
      refine ⟨by omega, ?_⟩
      rw [show 2 * fstK (cntK lens lens.length) (q - 1) + (c * 2 ^ (q - n) - 2 * fstK (cntK lens lens.length) (q - 1)) = c * 2 ^ (q - n) from by omega]
      exact Nat.mul_div_cancel _ (Nat.pow_pos (by omega))

theorem rtk_take (lens : List Nat) (h15 : ∀ x ∈ lens, x ≤ 15) (hw : wholeB (cntK lens lens.length) = true) (l : List UInt8) : ∀ (f n code p : Nat), n + f = 16 → 1 ≤ n → fstK (cntK lens lens.length) (n - 1) ≤ code → code < 2 ^ (n - 1) → preK (cntK lens lens.length) (n - 1) < (ordA lens 15).length →
    rtkK lens (codesN lens) l f n code p = takeK (cntK lens lens.length) (ordA lens 15) l f n code (fstK (cntK lens lens.length) (n - 1)) (preK (cntK lens lens.length) (n - 1)) p := by
  intro f
  induction f with
  | zero =>
    intro n code p e h1 _ _ h4
    obtain rfl : n = 16 := by omega
    rw [← pre_ord lens 15 (Nat.le_refl _)] at h4
    have h4 : preK (cntK lens lens.length) 15 < preK (cntK lens lens.length) 15 := h4
    omega
  | succ f ih =>
    intro n code p e h1 h2 h3 h4
    have hbit := bitL_le l p
    have hF := fst_pred (cntK lens lens.length) h1
    have hpw : 2 ^ n = 2 * 2 ^ (n - 1) := by
      obtain ⟨q, rfl⟩ : ∃ q, n = q + 1 := ⟨n - 1, by omega⟩
      rw [Nat.add_sub_cancel, Nat.pow_succ]; omega
    have hP : preK (cntK lens lens.length) n = preK (cntK lens lens.length) (n - 1) + (cntK lens lens.length).getD n 0 := by
      obtain ⟨q, rfl⟩ : ∃ q, n = q + 1 := ⟨n - 1, by omega⟩
      rfl
    unfold rtkK takeK
    rw [if_neg (by omega : ¬ (ordA lens 15).length ≤ _)]
    by_cases g1 : 8 * l.length < p + 1
    · rw [if_pos g1, if_pos g1]
    rw [if_neg g1, if_neg g1]
    by_cases g2 : 2 * code + bitL l p - 2 * fstK (cntK lens lens.length) (n - 1) < (cntK lens lens.length).getD n 0
    · have hh := sym_hit lens h1 (by omega) (c := 2 * code + bitL l p) (by omega) g2
      rw [if_pos g2, hh, if_pos (Int.natCast_nonneg _), Int.toNat_natCast]
    · have hm := sym_miss lens h1 (by omega) (c := 2 * code + bitL l p) (by omega)
      have hlg := longer lens h15 hw h1 (by omega) (c := 2 * code + bitL l p) (by omega) (by omega)
      rw [if_neg g2, hm, if_neg (by omega)]
      by_cases g3 : preK (cntK lens lens.length) n < (ordA lens 15).length
      · rw [if_neg (by rw [hlg.2 g3]; decide)]
        have := ih (n + 1) (2 * code + bitL l p) (p + 1) (by omega) (by omega) (by rw [Nat.add_sub_cancel]; omega) (by rw [Nat.add_sub_cancel]; omega) (by rw [Nat.add_sub_cancel]; exact g3)
        rw [this, Nat.add_sub_cancel, ← hF, ← hP]
      · have hs : (begF lens (codesN lens) (2 * code + bitL l p) n lens.length 0 false).1 = false := by
          cases hb : (begF lens (codesN lens) (2 * code + bitL l p) n lens.length 0 false).1 with
          | false => rfl
          | true => exact absurd (hlg.1 hb) g3
        rw [if_pos hs]
        cases f with
        | zero => unfold takeK; rfl
        | succ f =>
          unfold takeK
          rw [if_pos (by omega)]

theorem ordA_nil (lens : List Nat) (h : ∀ x ∈ lens, x = 0) (m : Nat) : ordA lens m = [] := by
  induction m with
  | zero => rfl
  | succ m ih =>
    rw [show ordA lens (m + 1) = ordA lens m ++ ordS lens (m + 1) lens.length from rfl, ih, List.nil_append]
    unfold ordS
    rw [List.filter_eq_nil_iff]
    intro a ha
    have ha := List.mem_range.1 ha
    have := h (lens.getD a 0) (by rw [List.getD_eq_getElem?_getD, List.getElem?_eq_getElem ha]; exact List.getElem_mem ha)
    rw [beq_iff_eq]; omega
/-- The next symbol by the document's table is that by the program's. -/
theorem rtk_ok (lens : List Nat) (h15 : ∀ x ∈ lens, x ≤ 15) (hw : wholeB (cntK lens lens.length) = true) (l : List UInt8) (p : Nat) : rtkF lens (codesN lens) l p = takeF (cntK lens lens.length) (ordA lens 15) l p := by
  unfold rtkF takeF
  by_cases h0 : ∀ x ∈ lens, x = 0
  · rw [if_pos (.inr h0), ordA_nil lens h0]
    unfold takeK
    rw [if_pos (show ([] : List Nat).length ≤ 0 from Nat.le_refl 0)]
  · obtain ⟨x, hx, hx0⟩ : ∃ x, x ∈ lens ∧ x ≠ 0 := by
      refine Classical.byContradiction fun hc => h0 fun x hx => ?_
      exact Classical.byContradiction fun hn => hc ⟨x, hx, hn⟩
    obtain ⟨j, hj, rfl⟩ := List.getElem_of_mem hx
    have hjl : lens.getD j 0 = lens[j] := by rw [List.getD_eq_getElem?_getD, List.getElem?_eq_getElem hj]; rfl
    have hj15 := h15 _ hx
    have hlt := codeN_lt lens (n := lens[j]) (by omega) hj15 hj hjl
    have hle := fst_le hw hj15
    have hb : (begF lens (codesN lens) 0 0 lens.length 0 false).1 = true := by
      rw [begF_some]
      refine .inr ⟨j, by omega, by omega, ?_⟩
      unfold beg
      rw [codesN_at lens hj, hjl, Nat.sub_zero, Nat.div_eq_of_lt (by omega)]
      rfl
    rw [if_neg (by rw [hb]; rintro (h | h); · cases h
                   exact h0 h)]
    have hr := rank_lt lens hj hjl
    have hc := cnt_le_pre (cntK lens lens.length) (i := lens[j]) (m := 15) (by omega) hj15
    rw [cnt_ord lens (by omega) hj15, pre_ord lens 15 (Nat.le_refl _)] at hc
    exact rtk_take lens h15 hw l 15 1 0 p rfl (by omega) (by unfold fstK; exact Nat.zero_le _) (by decide) (by show preK _ 0 < _; unfold preK; omega)
theorem codesN_lt (lens : List Nat) (h15 : ∀ x ∈ lens, x ≤ 15) (hw : wholeB (cntK lens lens.length) = true) : ∀ x ∈ codesN lens, x < 65536 := by
  intro x hx
  unfold codesN at hx
  obtain ⟨i, hi, rfl⟩ := List.mem_map.1 hx
  have hi := List.mem_range.1 hi
  have hl := getD_le15 h15 i
  by_cases h0 : lens.getD i 0 = 0
  · unfold codeN; rw [if_pos h0]; decide
  · have h1 := codeN_lt lens (n := lens.getD i 0) (by omega) hl hi rfl
    have h2 := fst_le hw hl
    have h3 : 2 ^ (lens.getD i 0) ≤ 2 ^ 15 := Nat.pow_le_pow_right (by omega) hl
    omega

/-! ### The sum of a table -/
theorem set_sum (cnt : List Nat) (v : Nat) (hv : v < cnt.length) : ∀ m, sumK (cnt.set v (cnt.getD v 0 + 1)) m = sumK cnt m + (if 1 ≤ v ∧ v ≤ m then 2 ^ (15 - v) else 0) := by
  intro m
  induction m with
  | zero => rw [if_neg (by omega)]; rfl
  | succ m ih =>
    unfold sumK
    rw [ih]
    by_cases h : v = m + 1
    · subst h
      rw [List.getD_eq_getElem?_getD, List.getElem?_set_self hv, Option.getD_some, if_neg (by omega), if_pos (by omega), Nat.add_mul, Nat.one_mul]
      omega
    · rw [List.getD_eq_getElem?_getD, List.getElem?_set_ne h, ← List.getD_eq_getElem?_getD]
      by_cases h2 : 1 ≤ v ∧ v ≤ m
      · rw [if_pos h2, if_pos (by omega)]; omega
      · rw [if_neg h2, if_neg (by omega)]; omega
theorem set_pre (cnt : List Nat) (v : Nat) (hv : v < cnt.length) : ∀ m, preK (cnt.set v (cnt.getD v 0 + 1)) m = preK cnt m + (if 1 ≤ v ∧ v ≤ m then 1 else 0) := by
  intro m
  induction m with
  | zero => rw [if_neg (by omega)]; rfl
  | succ m ih =>
    unfold preK
    rw [ih]
    by_cases h : v = m + 1
    · subst h
      rw [List.getD_eq_getElem?_getD, List.getElem?_set_self hv, Option.getD_some, if_neg (by omega), if_pos (by omega)]
      omega
    · rw [List.getD_eq_getElem?_getD, List.getElem?_set_ne h, ← List.getD_eq_getElem?_getD]
      by_cases h2 : 1 ≤ v ∧ v ≤ m
      · rw [if_pos h2, if_pos (by omega)]; omega
      · rw [if_neg h2, if_neg (by omega)]; omega
theorem sum_step (lens : List Nat) (k : Nat) (h : lens.getD k 0 ≤ 15) : sumK (cntK lens (k + 1)) 15 = sumK (cntK lens k) 15 + (if 0 < lens.getD k 0 then 2 ^ (15 - lens.getD k 0) else 0) := by
  have hl := cntK_len lens k
  conv => lhs; unfold cntK
  by_cases h0 : 0 < lens.getD k 0
  · rw [if_pos h0, if_pos h0, set_sum _ _ (by omega), if_pos (by omega)]
  · rw [if_neg h0, if_neg h0]; rfl
theorem pre_step (lens : List Nat) (k : Nat) (h : lens.getD k 0 ≤ 15) : preK (cntK lens (k + 1)) 15 = preK (cntK lens k) 15 + (if 0 < lens.getD k 0 then 1 else 0) := by
  have hl := cntK_len lens k
  conv => lhs; unfold cntK
  by_cases h0 : 0 < lens.getD k 0
  · rw [if_pos h0, if_pos h0, set_pre _ _ (by omega), if_pos (by omega)]
  · rw [if_neg h0, if_neg h0]; rfl
/-- The one length, if there is but one. -/
def sngK (lens : List Nat) : Nat → Nat
  | 0 => 0
  | k + 1 => if 0 < lens.getD k 0 then lens.getD k 0 else sngK lens k
theorem sng_cnt (lens : List Nat) : ∀ k, (∀ i, lens.getD i 0 ≤ 15) → 0 < preK (cntK lens k) 15 → 1 ≤ sngK lens k ∧ sngK lens k ≤ 15 ∧ 1 ≤ (cntK lens k).getD (sngK lens k) 0 := by
  intro k
  induction k with
  | zero => intro _ h; exact absurd h (by show ¬ 0 < preK (List.replicate 16 0) 15; decide)
  | succ k ih =>
    intro h15 h
    have hk := h15 k
    rw [pre_step lens k hk] at h
    unfold sngK
    by_cases h0 : 0 < lens.getD k 0
    · rw [if_pos h0, cnt_ord lens (by omega) hk, ordS_succ, if_pos rfl]
      omega
    · rw [if_neg h0] at h ⊢
      obtain ⟨g1, g2, g3⟩ := ih h15 (by omega)
      refine ⟨g1, g2, ?_⟩
      rw [cnt_ord lens g1 g2] at g3 ⊢
      rw [ordS_succ]; omega
theorem whole_iff (lens : List Nat) (h15 : ∀ i, lens.getD i 0 ≤ 15) (k : Nat) : wholeB (cntK lens k) = false ↔ (32768 < sumK (cntK lens k) 15 ∨ sumK (cntK lens k) 15 < 32768 ∧ ¬ (preK (cntK lens k) 15 = 0 ∨ preK (cntK lens k) 15 = 1 ∧ sngK lens k = 1)) := by
  have h1 := sum_pre (cntK lens k) 15
  have h2 := cnt_le_pre (cntK lens k) (i := 1) (m := 15) (by omega) (by omega)
  have e : (preK (cntK lens k) 15 = 1 ∧ sngK lens k = 1) ↔ (preK (cntK lens k) 15 = 1 ∧ (cntK lens k).getD 1 0 = 1) := by
    constructor
    · rintro ⟨g1, g2⟩
      obtain ⟨_, _, q3⟩ := sng_cnt lens k h15 (by omega)
      rw [g2] at q3
      exact ⟨g1, by omega⟩
    · rintro ⟨g1, g2⟩
      obtain ⟨q1, q2, q3⟩ := sng_cnt lens k h15 (by omega)
      refine ⟨g1, ?_⟩
      rcases Nat.eq_or_lt_of_le q1 with h | h
      · exact h.symm
      · have h3 := cnt_le_pre (cntK lens k) (i := sngK lens k) (m := 15) q1 q2
        have h4 := cnt_le_pre (cntK lens k) (i := 1) (m := sngK lens k - 1) (by omega) (by omega)
        omega
  rw [e]
  have ew : wholeB (cntK lens k) = true ↔ (sumK (cntK lens k) 15 = 32768 ∨ preK (cntK lens k) 15 = 0 ∨ (preK (cntK lens k) 15 = 1 ∧ (cntK lens k).getD 1 0 = 1)) := by
    unfold wholeB
    simp only [Bool.or_eq_true, Bool.and_eq_true, beq_iff_eq, or_assoc]
  rw [← Bool.not_eq_true, ew]
  omega
end Go.Proofs.YtgmopcbfgcagaaaDoor
