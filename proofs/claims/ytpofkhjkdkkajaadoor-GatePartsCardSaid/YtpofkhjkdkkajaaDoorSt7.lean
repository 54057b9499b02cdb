/-
  Plain laws of the deframer and of what is stuffed: no program in sight.
-/
import Derived.Test.YtpofkhjkdkkajaaDoorSt4
namespace Go.Proofs.YtpofkhjkdkkajaaDoor
open Go V

theorem xor20 (c : UInt8) : (c ^^^ 0x20) ^^^ 0x20 = c := by
  rw [UInt8.xor_assoc, UInt8.xor_self, UInt8.xor_zero]

theorem low_ne (c : UInt8) (h : c.toNat < 32) : c ^^^ 0x20 ≠ 0x7e := by
  have key : ∀ n : Fin 32, UInt8.ofNat n.val ^^^ 0x20 ≠ 0x7e := by decide
  have := key ⟨c.toNat, h⟩
  simpa using this

theorem esc_ne (m : BitVec 32) (c : UInt8) (h : escB m c = true) : c ^^^ 0x20 ≠ 0x7e := by
  unfold escB at h
  rw [Bool.or_eq_true, Bool.or_eq_true] at h
  rcases h with h | h | h
  · have : c = 0x7e := by simpa using h
    subst this; decide
  · have : c = 0x7d := by simpa using h
    subst this; decide
  · unfold mapB at h
    rw [Bool.and_eq_true] at h
    exact low_ne c (of_decide_eq_true h.1)

/-- Bytes that are added one by one. -/
def Df.adds (s : Df) (l : List UInt8) : Df := l.foldl Df.add s

theorem Df.add_same (s : Df) (x : UInt8) : (s.add x).esc = s.esc ∧ (s.add x).accm = s.accm ∧ (s.add x).most = s.most ∧ (s.add x).dropped = s.dropped := by
  unfold Df.add
  split <;> exact ⟨rfl, rfl, rfl, rfl⟩

theorem Df.feed_nil (s : Df) : s.feed [] = (s, []) := rfl
theorem Df.feed_cons (s : Df) (x : UInt8) (r : List UInt8) : s.feed (x :: r) = (((s.step x).1.feed r).1, (s.step x).2 ++ ((s.step x).1.feed r).2) := rfl

theorem Df.set_esc (s : Df) (h : s.esc = false) : { s with esc := false } = s := by
  cases s; simp at h; subst h; rfl

theorem Df.feed_stuffL (m : BitVec 32) : ∀ (l : List UInt8) (s : Df), s.esc = false → (∀ c, mapB c s.accm = true → mapB c m = true) → s.feed (stuffL m l) = (s.adds l, [])
  | [], s, _, _ => rfl
  | c :: l, s, he, hm => by
    have h1 : stuffL m (c :: l) = (if escB m c then [0x7d, c ^^^ 0x20] else [c]) ++ stuffL m l := by simp [stuffL]
    have ih := Df.feed_stuffL m l (s.add c) (by rw [(s.add_same c).1]; exact he) (by rw [(s.add_same c).2.1]; exact hm)
    rw [h1, Df.feed_append]
    have first : s.feed (if escB m c then [0x7d, c ^^^ 0x20] else [c]) = (s.add c, []) := by
      cases hc : escB m c with
      | true =>
        have hne := esc_ne m c hc
        have s1 : s.step 0x7d = ({ s with esc := true }, []) := by
          unfold Df.step
          rw [if_neg (by decide), if_neg (by simp [he]), if_pos rfl]
        have s2 : ({ s with esc := true } : Df).step (c ^^^ 0x20) = (s.add c, []) := by
          unfold Df.step
          rw [if_neg hne, if_pos rfl, xor20]
          have : ({ ({ s with esc := true } : Df) with esc := false } : Df) = s := s.set_esc he
          rw [this]
        simp only [if_true, Df.feed_cons, Df.feed_nil, s1, s2, List.append_nil]
      | false =>
        unfold escB at hc
        rw [Bool.or_eq_false_iff, Bool.or_eq_false_iff] at hc
        obtain ⟨h7e, h7d, hmp⟩ := hc
        have s1 : s.step c = (s.add c, []) := by
          unfold Df.step
          have hmm : mapB c s.accm = false := by
            cases h : mapB c s.accm with
            | false => rfl
            | true => rw [hm c h] at hmp; cases hmp
          rw [if_neg (by simpa using h7e), if_neg (by simp [he]), if_neg (by simpa using h7d), if_neg (by simp [hmm])]
        simp only [Bool.false_eq_true, if_false, Df.feed_cons, Df.feed_nil, s1, List.append_nil]
    rw [first, ih]
    rfl

theorem Df.adds_fit : ∀ (l : List UInt8) (s : Df), s.b.length + l.length ≤ s.most → s.adds l = { s with b := s.b ++ l }
  | [], s, _ => by cases s; simp [Df.adds]
  | c :: l, s, h => by
    simp only [List.length_cons] at h
    have h1 : s.add c = { s with b := s.b ++ [c] } := by unfold Df.add; rw [if_neg (by omega)]
    have ih := Df.adds_fit l (s.add c) (by rw [h1]; simp only [List.length_append, List.length_cons, List.length_nil]; omega)
    show (s.add c).adds l = _
    rw [ih, h1]
    simp

theorem Df.adds_over : ∀ (l : List UInt8) (s : Df), s.b.length ≤ s.most → s.most < s.b.length + l.length → (s.adds l).long = true ∧ (s.adds l).esc = s.esc ∧ (s.adds l).accm = s.accm ∧ (s.adds l).most = s.most ∧ (s.adds l).dropped = s.dropped
  | [], s, h0, h => by simp at h; omega
  | c :: l, s, h0, h => by
    simp only [List.length_cons] at h
    obtain ⟨e1, e2, e3, e4⟩ := s.add_same c
    have keep : ∀ (l : List UInt8) (t : Df), t.long = true → (t.adds l).long = true ∧ (t.adds l).esc = t.esc ∧ (t.adds l).accm = t.accm ∧ (t.adds l).most = t.most ∧ (t.adds l).dropped = t.dropped := by
      intro l
      induction l with
      | nil => intro t ht; exact ⟨ht, rfl, rfl, rfl, rfl⟩
      | cons x l ih =>
        intro t ht
        obtain ⟨f1, f2, f3, f4⟩ := t.add_same x
        have : (t.add x).long = true := by unfold Df.add; split <;> first | rfl | exact ht
        obtain ⟨g1, g2, g3, g4, g5⟩ := ih (t.add x) this
        exact ⟨g1, by show ((t.add x).adds l).esc = _; rw [g2, f1], by show ((t.add x).adds l).accm = _; rw [g3, f2], by show ((t.add x).adds l).most = _; rw [g4, f3], by show ((t.add x).adds l).dropped = _; rw [g5, f4]⟩
    show ((s.add c).adds l).long = true ∧ ((s.add c).adds l).esc = s.esc ∧ ((s.add c).adds l).accm = s.accm ∧ ((s.add c).adds l).most = s.most ∧ ((s.add c).adds l).dropped = s.dropped
    by_cases hf : s.most ≤ s.b.length
    · have : (s.add c).long = true := by unfold Df.add; rw [if_pos hf]
      obtain ⟨g1, g2, g3, g4, g5⟩ := keep l (s.add c) this
      exact ⟨g1, by rw [g2, e1], by rw [g3, e2], by rw [g4, e3], by rw [g5, e4]⟩
    · have hb : (s.add c).b = s.b ++ [c] := by unfold Df.add; rw [if_neg hf]
      obtain ⟨g1, g2, g3, g4, g5⟩ := Df.adds_over l (s.add c) (by rw [hb, e3]; simp; omega) (by rw [hb, e3]; simp; omega)
      exact ⟨g1, by rw [g2, e1], by rw [g3, e2], by rw [g4, e3], by rw [g5, e4]⟩

/-- A deframer between frames. -/
def Df.clean (s : Df) : Prop := s.b = [] ∧ s.long = false ∧ s.esc = false

theorem Df.step_flag (s : Df) : s.step 0x7e = (s.fin, s.out) := by unfold Df.step; rw [if_pos rfl]

theorem Df.fin_clean (s : Df) : s.fin.clean := ⟨rfl, rfl, rfl⟩

theorem Df.clean_fin {s : Df} (h : s.clean) : s.fin = s ∧ s.out = [] := by
  obtain ⟨h1, h2, h3⟩ := h
  cases s
  simp only at h1 h2 h3
  subst h1; subst h2; subst h3
  exact ⟨rfl, rfl⟩

/-- What is stuffed is told, where the map covers the other end's and it fits. -/
theorem Df.feed_stuffed (m : BitVec 32) (l : List UInt8) (s : Df) (hs : s.clean) (hm : ∀ c, mapB c s.accm = true → mapB c m = true) (hl : l.length ≤ s.most) :
    s.feed (stuffed m l) = (s, if l = [] then [] else [l]) := by
  obtain ⟨hf, ho⟩ := Df.clean_fin hs
  obtain ⟨h1, h2, h3⟩ := hs
  have hA : s.feed (0x7e :: stuffL m l) = ({ s with b := s.b ++ l }, []) := by
    rw [Df.feed_cons, Df.step_flag]
    dsimp only
    rw [hf, ho, Df.feed_stuffL m l s h3 hm, Df.adds_fit l s (by rw [h1]; simpa using hl)]
    rfl
  show s.feed ((0x7e :: stuffL m l) ++ [0x7e]) = _
  rw [Df.feed_append, hA]
  simp only [Df.feed_cons, Df.feed_nil, Df.step_flag, List.nil_append, List.append_nil]
  have e1 : ({ s with b := s.b ++ l } : Df).fin = s := by
    cases s
    simp only at h1 h2 h3
    subst h1; subst h2; subst h3
    rfl
  have e2 : ({ s with b := s.b ++ l } : Df).out = if l = [] then [] else [l] := by
    unfold Df.out
    rw [h1, h2, h3]
    cases l <;> simp
  rw [e1, e2]

/-- What is stuffed and does not fit is dropped. -/
theorem Df.feed_long (m : BitVec 32) (l : List UInt8) (s : Df) (hs : s.clean) (hm : ∀ c, mapB c s.accm = true → mapB c m = true) (hl : s.most < l.length) :
    s.feed (stuffed m l) = ({ s with dropped := s.dropped + 1 }, []) := by
  obtain ⟨hf, ho⟩ := Df.clean_fin hs
  obtain ⟨h1, h2, h3⟩ := hs
  have hA : s.feed (0x7e :: stuffL m l) = (s.adds l, []) := by
    rw [Df.feed_cons, Df.step_flag]
    dsimp only
    rw [hf, ho, Df.feed_stuffL m l s h3 hm]
    rfl
  show s.feed ((0x7e :: stuffL m l) ++ [0x7e]) = _
  rw [Df.feed_append, hA]
  obtain ⟨g1, g2, g3, g4, g5⟩ := Df.adds_over l s (by rw [h1]; simp) (by rw [h1]; simpa using hl)
  simp only [Df.feed_cons, Df.feed_nil, Df.step_flag, List.nil_append, List.append_nil]
  have e1 : (s.adds l).fin = { s with dropped := s.dropped + 1 } := by
    unfold Df.fin
    rw [g1]
    cases hs' : s.adds l
    rw [hs'] at g2 g3 g4 g5
    simp only at g2 g3 g4 g5
    subst g3; subst g4; subst g5
    cases s
    simp only at h1 h2 h3
    subst h1; subst h2; subst h3
    rfl
  have e2 : (s.adds l).out = [] := by unfold Df.out; rw [g1]; simp
  rw [e1, e2]

theorem mapB_zero (c : UInt8) : mapB c 0#32 = false := by
  unfold mapB
  simp

/-- Two deframers that are one but for how many they dropped. -/
theorem Df.feed_drop (k : Nat) : ∀ (l : List UInt8) (s : Df), ({ s with dropped := s.dropped + k } : Df).feed l = ({ (s.feed l).1 with dropped := (s.feed l).1.dropped + k }, (s.feed l).2)
  | [], s => rfl
  | x :: l, s => by
    have hadd : ∀ (t : Df) (y : UInt8), ({ t with dropped := t.dropped + k } : Df).add y = { t.add y with dropped := (t.add y).dropped + k } := by
      intro t y
      unfold Df.add
      dsimp only
      split <;> rfl
    have hstep : ({ s with dropped := s.dropped + k } : Df).step x = ({ (s.step x).1 with dropped := (s.step x).1.dropped + k }, (s.step x).2) := by
      unfold Df.step
      dsimp only
      split
      · refine Prod.ext ?_ rfl
        unfold Df.fin
        dsimp only
        split <;> simp <;> omega
      · split
        · refine Prod.ext ?_ rfl
          exact hadd { s with esc := false } _
        · split
          · rfl
          · split
            · rfl
            · exact Prod.ext (hadd s x) rfl
    rw [Df.feed_cons, Df.feed_cons, hstep]
    dsimp only
    rw [Df.feed_drop k l (s.step x).1]

theorem Df.step_most (s : Df) (x : UInt8) : (s.step x).1.most = s.most := by
  unfold Df.step
  split
  · rfl
  · split
    · exact (Df.add_same { s with esc := false } _).2.2.1
    · split
      · rfl
      · split
        · rfl
        · exact (s.add_same x).2.2.1
theorem Df.feed_most (s : Df) (l : List UInt8) : (s.feed l).1.most = s.most := by
  induction l generalizing s with
  | nil => rfl
  | cons x l ih => simp only [Df.feed]; rw [ih, Df.step_most]
end Go.Proofs.YtpofkhjkdkkajaaDoor
