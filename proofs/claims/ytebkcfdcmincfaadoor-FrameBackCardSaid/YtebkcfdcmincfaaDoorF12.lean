/-
  One byte that is turned is found by the sum: in plain Lean. A store into a row of the call's own.
-/
import Derived.Test.YtebkcfdcmincfaaDoorF11
import Derived.Test.YtebkcfdcmincfaaDoorSt7
namespace Go.Proofs.YtebkcfdcmincfaaDoor
open Go V

theorem Own.set {w : World} {base e n c : Nat} {b i : Nat} {xs : List Value} (h : Own w base e 1 (some ⟨b, 0, none⟩) n c xs) (hi : i < n) {v : Value} {K : World → Prop}
    (hK : ∀ w', Own w' base e 1 (some ⟨b, 0, none⟩) n c (xs.set i v) → Keep (fun k => k = b) w w' → w'.heap.size = w.heap.size → K w') : VStore w b (0 + i) [v] true K := by
  obtain ⟨hl, h0 | ⟨g, cap, cur, hv, hg, hh, h1, h2, h3, h4⟩⟩ := h
  · cases h0.1
  · injection hv with e1 e2 e3
    injection e1 with e1
    injection e1 with e1
    subst e1
    subst e3
    have hb : Blk w b e cur.toList := by unfold Blk; rw [hh]
    have hcl : cur.toList.length = c := by simpa using h3
    rw [Nat.zero_add]
    refine VStore.one hb (by omega) fun w' hb' hk hs => hK w' ?_ hk hs
    refine ⟨by rw [List.length_set]; exact hl, .inr ⟨b, c, (cur.toList.set i v).toArray, rfl, hg, ?_, h1, h2, by simp; omega, ?_⟩⟩
    · unfold Blk at hb'; exact hb'
    · rw [← h4]
      simp [List.take_set]

/-! ### The sum finds one byte -/
theorem cstep_inj {x y : BitVec 16} (h : cstep x = cstep y) : x = y := by
  have top : ∀ z : BitVec 16, (z >>> 1).getLsbD 15 = false := fun z => by
    rw [BitVec.getLsbD_ushiftRight]
    exact BitVec.getLsbD_of_ge _ _ (by omega)
  have top2 : ∀ z : BitVec 16, ((z >>> 1) ^^^ 0x8408#16).getLsbD 15 = true := fun z => by
    rw [BitVec.getLsbD_xor, top z]
    decide
  have low : ∀ z : BitVec 16, z &&& 1#16 = 1#16 ↔ z.toNat % 2 = 1 := fun z => by
    constructor
    · intro h
      have := congrArg BitVec.toNat h
      rw [BitVec.toNat_and] at this
      have e : (1#16).toNat = 1 := rfl
      rw [e, Nat.and_one_is_mod] at this
      exact this
    · intro h
      apply BitVec.eq_of_toNat_eq
      rw [BitVec.toNat_and]
      have e : (1#16).toNat = 1 := rfl
      rw [e, Nat.and_one_is_mod, h]
  have fin : x.toNat % 2 = y.toNat % 2 → x >>> 1 = y >>> 1 → x = y := fun h1 h2 => by
    have := congrArg BitVec.toNat h2
    rw [BitVec.toNat_ushiftRight, BitVec.toNat_ushiftRight, Nat.shiftRight_eq_div_pow, Nat.shiftRight_eq_div_pow] at this
    apply BitVec.eq_of_toNat_eq
    have e : (2 : Nat) ^ 1 = 2 := rfl
    rw [e] at this
    omega
  unfold cstep at h
  by_cases hx : x &&& 1#16 = 1#16 <;> by_cases hy : y &&& 1#16 = 1#16
  · rw [if_pos hx, if_pos hy] at h
    refine fin (by rw [(low x).1 hx, (low y).1 hy]) ?_
    have := congrArg (· ^^^ 0x8408#16) h
    simpa [BitVec.xor_assoc] using this
  · rw [if_pos hx, if_neg hy] at h
    have := congrArg (fun z => BitVec.getLsbD z 15) h
    simp only [top, top2] at this
    cases this
  · rw [if_neg hx, if_pos hy] at h
    have := congrArg (fun z => BitVec.getLsbD z 15) h
    simp only [top, top2] at this
    cases this
  · rw [if_neg hx, if_neg hy] at h
    refine fin ?_ h
    have a1 : ¬ x.toNat % 2 = 1 := fun e => hx ((low x).2 e)
    have a2 : ¬ y.toNat % 2 = 1 := fun e => hy ((low y).2 e)
    omega
theorem csteps_inj : ∀ (n : Nat) {x y : BitVec 16}, csteps n x = csteps n y → x = y
  | 0, _, _, h => h
  | n + 1, _, _, h => csteps_inj n (cstep_inj h)
theorem xor_left {a b c : BitVec 16} (h : a ^^^ b = a ^^^ c) : b = c := by
  have := congrArg (a ^^^ ·) h
  simpa [← BitVec.xor_assoc] using this
theorem xor_right {a b c : BitVec 16} (h : a ^^^ c = b ^^^ c) : a = b := by
  have := congrArg (· ^^^ c) h
  simpa [BitVec.xor_assoc] using this
theorem cbyte_state {x y : BitVec 16} {c : UInt8} (h : cbyte x c = cbyte y c) : x = y := xor_right (csteps_inj 8 h)
theorem cbyte_byte {x : BitVec 16} {c d : UInt8} (h : cbyte x c = cbyte x d) : c = d := by
  have := congrArg BitVec.toNat (xor_left (csteps_inj 8 h))
  rw [c16_nat, c16_nat] at this
  exact UInt8.toNat_inj.1 this
theorem fold_state : ∀ (l : List UInt8) {x y : BitVec 16}, l.foldl cbyte x = l.foldl cbyte y → x = y
  | [], _, _, h => h
  | c :: l, _, _, h => cbyte_state (fold_state l h)
theorem creg_set {l : List UInt8} {i : Nat} {x y : UInt8} (hi : l[i]? = some x) (hne : y ≠ x) : creg (l.set i y) ≠ creg l := by
  intro h
  have hlt : i < l.length := by
    rcases Nat.lt_or_ge i l.length with h | h
    · exact h
    · rw [List.getElem?_eq_none h] at hi; cases hi
  have e1 : l.set i y = l.take i ++ y :: l.drop (i + 1) := by rw [List.set_eq_take_append_cons_drop, if_pos hlt]
  have e2 : l = l.take i ++ x :: l.drop (i + 1) := by
    have : l[i] = x := by rw [List.getElem?_eq_getElem hlt] at hi; injection hi
    rw [← this, ← List.drop_eq_getElem_cons hlt, List.take_append_drop]
  rw [e1] at h
  conv at h => rhs; rw [e2]
  unfold creg at h
  rw [List.foldl_append, List.foldl_append, List.foldl_cons, List.foldl_cons] at h
  exact hne (cbyte_byte (fold_state _ h))

theorem sumB_inj {s t : BitVec 16} (h0 : sumB s 0 = sumB t 0) (h1 : sumB s 1 = sumB t 1) : s = t := by
  have h0 := congrArg UInt8.toNat h0
  have h1 := congrArg UInt8.toNat h1
  unfold sumB at h0 h1
  have hs := s.isLt
  have ht := t.isLt
  have f : ∀ N : Nat, (UInt8.ofNat N).toNat = N % 256 := fun N => by simp
  rw [f, f] at h0 h1
  rw [BitVec.toNat_ushiftRight, BitVec.toNat_ushiftRight, Nat.shiftRight_eq_div_pow, Nat.shiftRight_eq_div_pow] at h0 h1
  have e0 : (2 : Nat) ^ (8 * 0) = 1 := rfl
  have e1 : (2 : Nat) ^ (8 * 1) = 256 := rfl
  rw [e0] at h0
  rw [e1] at h1
  apply BitVec.eq_of_toNat_eq
  omega

/-- One byte of a frame with its sum is another one: the sum is wrong. -/
theorem check_set {b : List UInt8} {i : Nat} {x y : UInt8} (hi : (addP b)[i]? = some x) (hne : y ≠ x) : (checkP ((addP b).set i y)).2 = false := by
  have hL := addP_len b
  have hbad : addP (((addP b).set i y).take (((addP b).set i y).length - 2)) ≠ (addP b).set i y := by
    rw [List.length_set, hL, show b.length + 2 - 2 = b.length from by omega]
    have hlt : i < (addP b).length := by
      rcases Nat.lt_or_ge i (addP b).length with h | h
      · exact h
      · rw [List.getElem?_eq_none h] at hi; cases hi
    have htake : (addP b).take b.length = b := by unfold addP; rw [List.take_left]
    rcases Nat.lt_or_ge i b.length with h | h
    · rw [List.take_set, htake]
      intro e
      have hxb : b[i]? = some x := by
        unfold addP at hi
        rwa [List.getElem?_append_left h] at hi
      have e2 : (addP b).set i y = b.set i y ++ [sumB (csum b) 0, sumB (csum b) 1] := by
        unfold addP
        rw [List.set_append_left _ _ h]
      rw [e2] at e
      unfold addP at e
      have e3 := List.append_inj_right e rfl
      injection e3 with e4 e5
      injection e5 with e5 _
      have := sumB_inj e4 e5
      unfold csum at this
      have hh := congrArg (~~~ ·) this
      simp only [BitVec.not_not] at hh
      exact creg_set hxb hne hh
    · rw [List.take_set_of_le (by omega), htake]
      intro e
      have := congrArg (fun l => l[i]?) e
      simp only [List.getElem?_set_self hlt] at this
      rw [hi] at this
      injection this with this
      exact hne this.symm
  unfold checkP
  rw [if_neg (fun e => hbad e.2)]
theorem read_set {b : List UInt8} {i : Nat} {x y : UInt8} (f : Fo) (hi : (addP b)[i]? = some x) (hne : y ≠ x) : readW ((addP b).set i y) f = (0, [], 5) := by
  unfold readW
  rw [check_set hi hne]
  rfl
theorem check_add (b : List UInt8) : checkP (addP b) = (b, true) := by
  have hL := addP_len b
  have htake : (addP b).take b.length = b := by unfold addP; rw [List.take_left]
  unfold checkP
  rw [hL, show b.length + 2 - 2 = b.length from by omega, htake, if_pos ⟨by omega, rfl⟩]
theorem read_add (b : List UInt8) (f : Fo) : readW (addP b) f = decF b f := by
  unfold readW
  rw [check_add]
  rfl
theorem xor_bit_ne (x : UInt8) (s : Nat) (hs : s < 8) : x ^^^ UInt8.ofNat (2 ^ s) ≠ x := by
  intro h
  have h2 : x ^^^ (x ^^^ UInt8.ofNat (2 ^ s)) = x ^^^ x := by rw [h]
  rw [← UInt8.xor_assoc, UInt8.xor_self, UInt8.zero_xor] at h2
  have := congrArg UInt8.toNat h2
  match s, hs with
  | 0, _ | 1, _ | 2, _ | 3, _ | 4, _ | 5, _ | 6, _ | 7, _ => exact absurd this (by decide)
end Go.Proofs.YtebkcfdcmincfaaDoor
