/-
  DES in plain: all bits turned; two blocks come out unlike if they are; a key whose rounds' keys are all alike undoes itself.
-/
import Derived.Test.YtififgodhnelgaaD8
namespace Go.Proofs.Ytififgodhnelgaa
open Go V

/-! ### Bits and bytes -/
def nt (x : UInt8) : UInt8 := x ^^^ 1
def isBits (l : List UInt8) : Prop := ∀ x ∈ l, x.toNat ≤ 1
theorem bit_cases {x : UInt8} (h : x.toNat ≤ 1) : x = 0 ∨ x = 1 := by
  have : x.toNat = 0 ∨ x.toNat = 1 := by omega
  rcases this with h | h
  · exact .inl (UInt8.toNat_inj.1 h)
  · exact .inr (UInt8.toNat_inj.1 h)
theorem getD_map8 (f : UInt8 → UInt8) {l : List UInt8} {i : Nat} (h : i < l.length) : (l.map f).getD i 0 = f (l.getD i 0) := by
  rw [List.getD_eq_getElem?_getD, List.getD_eq_getElem?_getD, List.getElem?_map, List.getElem?_eq_getElem h]; rfl
theorem all_bytes {p : UInt8 → Bool} (h : (List.range 256).all (fun c => p (UInt8.ofNat c)) = true) (c : UInt8) : p c = true := by
  have := List.all_eq_true.1 h c.toNat (List.mem_range.2 c.toNat_lt)
  simpa using this
theorem bitsB_not (c : UInt8) : bitsB (~~~c) = (bitsB c).map nt := by
  have := all_bytes (p := fun c => bitsB (~~~c) == (bitsB c).map nt) (by decide +kernel) c
  simpa using this
theorem bitsP_not (l : List UInt8) : bitsP (l.map (~~~ ·)) = (bitsP l).map nt := by
  induction l with
  | nil => rfl
  | cons c l ih =>
    have e : ∀ (c : UInt8) l, bitsP (c :: l) = bitsB c ++ bitsP l := fun c l => by simp [bitsP]
    rw [List.map_cons, e, e, ih, bitsB_not, List.map_append]
theorem putP_nt {l : List UInt8} {o : Nat → Nat} {n : Nat} (h : ∀ i, i < n → o i - 1 < l.length) : putP (l.map nt) o n = (putP l o n).map nt := by
  unfold putP
  rw [List.map_map]
  exact List.map_congr_left fun i hi => getD_map8 nt (h i (List.mem_range.1 hi))
theorem nt_xor (x y : UInt8) : nt x ^^^ nt y = x ^^^ y := by
  unfold nt
  rw [UInt8.xor_assoc, UInt8.xor_comm 1, UInt8.xor_assoc, UInt8.xor_self, UInt8.xor_zero]
theorem nt_xor1 (x y : UInt8) : nt x ^^^ y = nt (x ^^^ y) := by
  unfold nt
  rw [UInt8.xor_assoc, UInt8.xor_comm 1, UInt8.xor_assoc]
theorem xorP_nt2 {a b : List UInt8} {n : Nat} (ha : n ≤ a.length) (hb : n ≤ b.length) : xorP (a.map nt) (b.map nt) n = xorP a b n := by
  refine List.map_congr_left fun i hi => ?_
  have := List.mem_range.1 hi
  rw [getD_map8 _ (by omega), getD_map8 _ (by omega), nt_xor]
theorem xorP_nt1 {a b : List UInt8} {n : Nat} (ha : n ≤ a.length) : xorP (a.map nt) b n = (xorP a b n).map nt := by
  unfold xorP
  rw [List.map_map]
  refine List.map_congr_left fun i hi => ?_
  have := List.mem_range.1 hi
  rw [getD_map8 _ (by omega), nt_xor1]; rfl
theorem turnP_nt (l : List UInt8) (k : Nat) : turnP (l.map nt) k = (turnP l k).map nt := by
  unfold turnP; rw [List.map_append, List.map_drop, List.map_take]
theorem cdP_len (l : List UInt8) (r : Nat) : (cdP l r).1.length = 28 ∧ (cdP l r).2.length = 28 := by
  induction r with
  | zero => exact ⟨putP_len _ _ _, putP_len _ _ _⟩
  | succ r ih =>
    have hs : shiftP (r + 1) ≤ 28 := by unfold shiftP; split <;> omega
    exact ⟨by show (turnP _ _).length = 28; rw [turnP_len (by omega)]; exact ih.1, by show (turnP _ _).length = 28; rw [turnP_len (by omega)]; exact ih.2⟩
theorem cdP_not {l : List UInt8} (h : l.length = 7) (r : Nat) : cdP (l.map (~~~ ·)) r = ((cdP l r).1.map nt, (cdP l r).2.map nt) := by
  induction r with
  | zero =>
    have hl := bitsP_len l
    unfold cdP
    rw [bitsP_not, putP_nt (fun i hi => by have := left_range i hi; omega), putP_nt (fun i hi => by have := right_range i hi; omega)]
  | succ r ih =>
    show (turnP _ _, turnP _ _) = (List.map nt (turnP _ _), List.map nt (turnP _ _))
    rw [ih, turnP_nt, turnP_nt]
theorem keyP_not {l : List UInt8} (h : l.length = 7) (r : Nat) : keyP (l.map (~~~ ·)) r = (keyP l r).map nt := by
  have := cdP_len l r
  unfold keyP
  rw [cdP_not h, ← List.map_append, putP_nt (fun i hi => by have := chosen_range i hi; rw [List.length_append]; omega)]
theorem keyP_len (l : List UInt8) (r : Nat) : (keyP l r).length = 48 := putP_len _ _ _
theorem roundP_nt {k : List UInt8} {p : List UInt8 × List UInt8} (hk : k.length = 48) (h1 : p.1.length = 32) (h2 : p.2.length = 32) : roundP (k.map nt) (p.1.map nt, p.2.map nt) = ((roundP k p).1.map nt, (roundP k p).2.map nt) := by
  have hw := putP_len p.2 wideO 48
  unfold roundP
  rw [putP_nt (l := p.2) (fun i hi => by have := wide_range i hi; omega), xorP_nt2 (by omega) (by omega), xorP_nt1 (by omega)]
theorem rounds_nt {key x : List UInt8} (hk : key.length = 7) (hx : x.length = 8) (r : Nat) : roundsP (key.map (~~~ ·)) (x.map (~~~ ·)) r = ((roundsP key x r).1.map nt, (roundsP key x r).2.map nt) := by
  induction r with
  | zero =>
    have hl := bitsP_len x
    show (List.take _ _, List.drop _ _) = (List.map nt (List.take _ _), List.map nt (List.drop _ _))
    rw [bitsP_not, putP_nt (fun i hi => by have := firstO_all i hi; omega), List.map_take, List.map_drop]
  | succ r ih =>
    have hl := rounds_len key x r
    show roundP _ _ = (List.map nt (roundP _ _).1, List.map nt (roundP _ _).2)
    rw [ih, keyP_not hk, roundP_nt (keyP_len _ _) hl.1 hl.2]

/-! ### The last order turned back -/
def lastL : List Nat := [39, 7, 47, 15, 55, 23, 63, 31, 38, 6, 46, 14, 54, 22, 62, 30, 37, 5, 45, 13, 53, 21, 61, 29, 36, 4, 44, 12, 52, 20, 60, 28, 35, 3, 43, 11, 51, 19, 59, 27, 34, 2, 42, 10, 50, 18, 58, 26, 33, 1, 41, 9, 49, 17, 57, 25, 32, 0, 40, 8, 48, 16, 56, 24]
theorem backK_len (l : List UInt8) (k : Nat) : (backK l k).length = 64 := by
  induction k with
  | zero => simp [backK]
  | succ k ih => rw [backK, List.length_set, ih]
theorem firstO_inj : ∀ i j, i < 64 → j < 64 → firstO i - 1 = firstO j - 1 → i = j := by
  have h : ∀ i : Fin 64, ∀ j : Fin 64, firstO i.val - 1 = firstO j.val - 1 → i.val = j.val := by decide +kernel
  exact fun i j hi hj => h ⟨i, hi⟩ ⟨j, hj⟩
theorem backK_at (l : List UInt8) (k : Nat) (hk : k ≤ 64) : ∀ i, i < k → (backK l k).getD (firstO i - 1) 0 = l.getD i 0 := by
  induction k with
  | zero => intro i hi; omega
  | succ k ih =>
    intro i hi
    have hf := firstO_all i (by omega)
    have hlen := backK_len l k
    rw [backK, List.getD_eq_getElem?_getD, List.getElem?_set]
    by_cases h : firstO k - 1 = firstO i - 1
    · have : k = i := firstO_inj k i (by omega) (by omega) h
      subst this
      rw [if_pos rfl, if_pos (by omega)]; rfl
    · rw [if_neg h, ← List.getD_eq_getElem?_getD]
      refine ih (by omega) i ?_
      rcases Nat.lt_or_ge i k with h1 | h1
      · exact h1
      · exact absurd (by rw [show i = k from by omega]) h
theorem list_of {l : List UInt8} {n : Nat} (h : l.length = n) : l = (List.range n).map fun i => l.getD i 0 := by
  apply List.ext_getElem
  · simp [h]
  · intro i h1 h2
    simp [List.getD_eq_getElem?_getD, h1]
theorem put_back {y : List UInt8} (h : y.length = 64) : putP (backK y 64) firstO 64 = y := by
  rw [list_of h]
  refine List.map_congr_left fun i hi => ?_
  rw [← list_of h]
  exact backK_at y 64 (by omega) i (List.mem_range.1 hi)
theorem lastL_ok : ∀ j, j < 64 → lastL.getD j 0 < 64 ∧ firstO (lastL.getD j 0) - 1 = j := by
  have h : ∀ j : Fin 64, lastL.getD j.val 0 < 64 ∧ firstO (lastL.getD j.val 0) - 1 = j.val := by decide +kernel
  exact fun j hj => h ⟨j, hj⟩
theorem backK_form (y : List UInt8) : backK y 64 = (List.range 64).map fun j => y.getD (lastL.getD j 0) 0 := by
  rw [list_of (backK_len y 64)]
  refine List.map_congr_left fun j hj => ?_
  obtain ⟨h1, h2⟩ := lastL_ok j (List.mem_range.1 hj)
  rw [← backK_at y 64 (by omega) _ h1, h2]
theorem back_put {b : List UInt8} (h : b.length = 64) : backK (putP b firstO 64) 64 = b := by
  rw [backK_form]
  conv => rhs; rw [list_of h]
  refine List.map_congr_left fun j hj => ?_
  obtain ⟨h1, h2⟩ := lastL_ok j (List.mem_range.1 hj)
  unfold putP
  rw [List.getD_eq_getElem?_getD, List.getElem?_map, List.getElem?_range h1, Option.map_some, Option.getD_some, h2]
theorem backK_nt {y : List UInt8} (h : y.length = 64) : backK (y.map nt) 64 = (backK y 64).map nt := by
  rw [backK_form, backK_form, List.map_map]
  refine List.map_congr_left fun j hj => ?_
  obtain ⟨h1, _⟩ := lastL_ok j (List.mem_range.1 hj)
  exact getD_map8 nt (by omega)
theorem backK_bit {y : List UInt8} (h : isBits y) : isBits (backK y 64) := by
  rw [backK_form]
  intro x hx
  obtain ⟨j, _, rfl⟩ := List.mem_map.1 hx
  exact bit_at h _

/-! ### Bytes of bits -/
def orB (f : Nat → UInt8) : UInt8 :=
  ((((((((0 ||| UInt8.ofNat ((f 0).toNat * 2 ^ 7)) ||| UInt8.ofNat ((f 1).toNat * 2 ^ 6)) ||| UInt8.ofNat ((f 2).toNat * 2 ^ 5)) ||| UInt8.ofNat ((f 3).toNat * 2 ^ 4)) ||| UInt8.ofNat ((f 4).toNat * 2 ^ 3)) ||| UInt8.ofNat ((f 5).toNat * 2 ^ 2)) ||| UInt8.ofNat ((f 6).toNat * 2 ^ 1)) ||| UInt8.ofNat ((f 7).toNat * 2 ^ 0))
theorem orB_congr {f g : Nat → UInt8} (h : ∀ i, i < 8 → f i = g i) : orB f = orB g := by
  unfold orB
  rw [h 0 (by omega), h 1 (by omega), h 2 (by omega), h 3 (by omega), h 4 (by omega), h 5 (by omega), h 6 (by omega), h 7 (by omega)]
theorem byteK_form (l : List UInt8) : byteK l 8 64 = (List.range 8).map fun j => orB fun i => l.getD (8 * j + i) 0 := by kernel_rfl
theorem bytesP_form {l : List UInt8} (h : l.length = 64) : bytesP l = (List.range 8).map fun j => orB fun i => l.getD (8 * j + i) 0 := by
  unfold bytesP; rw [h]; exact byteK_form l
/-- Eight bits are those of a number. -/
theorem bits8 (f : Nat → UInt8) (h : ∀ i, i < 8 → (f i).toNat ≤ 1) : ∃ c : UInt8, ∀ i, i < 8 → f i = bit8 c i := by
  have key : ∀ b0 b1 b2 b3 b4 b5 b6 b7 : Fin 2, ∀ i : Fin 8, [UInt8.ofNat b0.val, UInt8.ofNat b1.val, UInt8.ofNat b2.val, UInt8.ofNat b3.val, UInt8.ofNat b4.val, UInt8.ofNat b5.val, UInt8.ofNat b6.val, UInt8.ofNat b7.val].getD i.val 0 = bit8 (UInt8.ofNat (128 * b0.val + 64 * b1.val + 32 * b2.val + 16 * b3.val + 8 * b4.val + 4 * b5.val + 2 * b6.val + b7.val)) i.val := by decide +kernel
  have fin : ∀ i, i < 8 → ∃ b : Fin 2, f i = UInt8.ofNat b.val := fun i hi => ⟨⟨(f i).toNat, by have := h i hi; omega⟩, by simp⟩
  obtain ⟨b0, e0⟩ := fin 0 (by omega)
  obtain ⟨b1, e1⟩ := fin 1 (by omega)
  obtain ⟨b2, e2⟩ := fin 2 (by omega)
  obtain ⟨b3, e3⟩ := fin 3 (by omega)
  obtain ⟨b4, e4⟩ := fin 4 (by omega)
  obtain ⟨b5, e5⟩ := fin 5 (by omega)
  obtain ⟨b6, e6⟩ := fin 6 (by omega)
  obtain ⟨b7, e7⟩ := fin 7 (by omega)
  refine ⟨UInt8.ofNat (128 * b0.val + 64 * b1.val + 32 * b2.val + 16 * b3.val + 8 * b4.val + 4 * b5.val + 2 * b6.val + b7.val), fun i hi => ?_⟩
  rw [← key b0 b1 b2 b3 b4 b5 b6 b7 ⟨i, hi⟩]
  match i, hi with
  | 0, _ => exact e0
  | 1, _ => exact e1
  | 2, _ => exact e2
  | 3, _ => exact e3
  | 4, _ => exact e4
  | 5, _ => exact e5
  | 6, _ => exact e6
  | 7, _ => exact e7
theorem orB_bit8 (c : UInt8) : orB (bit8 c) = c := by
  have := all_bytes (p := fun c => orB (bit8 c) == c) (by decide +kernel) c
  simpa using this
theorem orB_nt (c : UInt8) : orB (fun i => nt (bit8 c i)) = ~~~c := by
  have := all_bytes (p := fun c => orB (fun i => nt (bit8 c i)) == ~~~c) (by decide +kernel) c
  simpa using this
theorem bitsP_get {l : List UInt8} : ∀ j i, j < l.length → i < 8 → (bitsP l).getD (8 * j + i) 0 = bit8 (l.getD j 0) i := by
  induction l with
  | nil => intro j i hj; simp at hj
  | cons c l ih =>
    intro j i hj hi
    have e : bitsP (c :: l) = bitsB c ++ bitsP l := by simp [bitsP]
    rw [e, List.getD_eq_getElem?_getD]
    cases j with
    | zero =>
      rw [List.getElem?_append_left (by rw [bitsB_len]; omega)]
      unfold bitsB
      rw [List.getElem?_map, List.getElem?_range (by omega), Nat.mul_zero, Nat.zero_add]
      rfl
    | succ j =>
      rw [List.getElem?_append_right (by rw [bitsB_len]; omega), bitsB_len, show 8 * (j + 1) + i - 8 = 8 * j + i from by omega, ← List.getD_eq_getElem?_getD, ih j i (by simpa using hj) hi]
      rfl
theorem bytes_bits {x : List UInt8} (h : x.length = 8) : bytesP (bitsP x) = x := by
  rw [bytesP_form (by rw [bitsP_len, h])]
  conv => rhs; rw [list_of h]
  refine List.map_congr_left fun j hj => ?_
  have hj := List.mem_range.1 hj
  rw [orB_congr (g := bit8 (x.getD j 0)) (fun i hi => bitsP_get j i (by omega) hi), orB_bit8]
theorem bytes_nt {l : List UInt8} (h : l.length = 64) (hb : isBits l) : bytesP (l.map nt) = (bytesP l).map (~~~ ·) := by
  rw [bytesP_form (by rw [List.length_map, h]), bytesP_form h, List.map_map]
  refine List.map_congr_left fun j hj => ?_
  have hj := List.mem_range.1 hj
  obtain ⟨c, hc⟩ := bits8 (fun i => l.getD (8 * j + i) 0) (fun i _ => bit_at hb _)
  show _ = ~~~ (orB _)
  rw [orB_congr (g := fun i => nt (bit8 c i)) (fun i hi => by rw [getD_map8 _ (by omega)]; exact congrArg nt (hc i hi)), orB_nt, orB_congr hc, orB_bit8]
theorem bits_bytes {l : List UInt8} (h : l.length = 64) (hb : isBits l) : bitsP (bytesP l) = l := by
  have hl : (bytesP l).length = 8 := by rw [bytesP_form h]; simp
  have h64 : (bitsP (bytesP l)).length = 64 := by rw [bitsP_len, hl]
  rw [list_of h64]
  conv => rhs; rw [list_of h]
  refine List.map_congr_left fun t ht => ?_
  have ht := List.mem_range.1 ht
  obtain ⟨c, hc⟩ := bits8 (fun i => l.getD (8 * (t / 8) + i) 0) (fun i _ => bit_at hb _)
  have e : t = 8 * (t / 8) + t % 8 := by omega
  have e2 : (bytesP l).getD (t / 8) 0 = c := by
    rw [bytesP_form h, List.getD_eq_getElem?_getD, List.getElem?_map, List.getElem?_range (by omega), Option.map_some, Option.getD_some, orB_congr hc, orB_bit8]
  rw [show (bitsP (bytesP l)).getD t 0 = (bitsP (bytesP l)).getD (8 * (t / 8) + t % 8) 0 from by rw [← e], bitsP_get _ _ (by omega) (by omega), e2, ← hc _ (by omega), ← e]

/-! ### The whole -/
theorem both_len (key x : List UInt8) : ((roundsP key x 16).2 ++ (roundsP key x 16).1).length = 64 := by
  have := rounds_len key x 16
  rw [List.length_append]; omega
theorem both_bit (key x : List UInt8) : isBits ((roundsP key x 16).2 ++ (roundsP key x 16).1) := by
  have := rounds_bit key x 16
  intro y hy
  exact (List.mem_append.1 hy).elim (this.2 y) (this.1 y)
theorem desP_len (key x : List UInt8) : (desP key x).length = 8 := by
  unfold desP; rw [bytesP_form (backK_len _ _)]; simp
theorem desP_not {key x : List UInt8} (hk : key.length = 7) (hx : x.length = 8) : desP (key.map (~~~ ·)) (x.map (~~~ ·)) = (desP key x).map (~~~ ·) := by
  unfold desP
  rw [rounds_nt hk hx, ← List.map_append, backK_nt (both_len key x), bytes_nt (backK_len _ _) (backK_bit (both_bit key x))]
theorem bits_desP (key x : List UInt8) : putP (bitsP (desP key x)) firstO 64 = (roundsP key x 16).2 ++ (roundsP key x 16).1 := by
  unfold desP
  rw [bits_bytes (backK_len _ _) (backK_bit (both_bit key x)), put_back (both_len key x)]
theorem xorP_undo {a : List UInt8} (f : List UInt8) (h : a.length = 32) : xorP (xorP a f 32) f 32 = a := by
  conv => rhs; rw [list_of h]
  refine List.map_congr_left fun i hi => ?_
  have hi := List.mem_range.1 hi
  have : (xorP a f 32).getD i 0 = a.getD i 0 ^^^ f.getD i 0 := by
    unfold xorP
    rw [List.getD_eq_getElem?_getD, List.getElem?_map, List.getElem?_range hi]; rfl
  rw [this, UInt8.xor_assoc, UInt8.xor_self, UInt8.xor_zero]
theorem roundP_inj {k : List UInt8} {p q : List UInt8 × List UInt8} (hp : p.1.length = 32) (hq : q.1.length = 32) (h : roundP k p = roundP k q) : p = q := by
  unfold roundP at h
  obtain ⟨h1, h2⟩ := Prod.mk.inj h
  rw [h1] at h2
  have := congrArg (fun a => xorP a (putP (boxK (xorP (putP q.2 wideO 48) k 48) 8) (fun i => mixedL.getD i 0) 32) 32) h2
  simp only [xorP_undo _ hp, xorP_undo _ hq] at this
  exact Prod.ext this h1
theorem rounds_inj {key a b : List UInt8} : ∀ r, roundsP key a r = roundsP key b r → roundsP key a 0 = roundsP key b 0
  | 0, h => h
  | r + 1, h => rounds_inj r (roundP_inj (rounds_len key a r).1 (rounds_len key b r).1 h)
theorem start_inj {key a b : List UInt8} (ha : a.length = 8) (hb : b.length = 8) (h : roundsP key a 0 = roundsP key b 0) : a = b := by
  obtain ⟨h1, h2⟩ := Prod.mk.inj (show (_, _) = (_, _) from h)
  have e : putP (bitsP a) firstO 64 = putP (bitsP b) firstO 64 := by
    rw [← List.take_append_drop 32 (putP (bitsP a) firstO 64), h1, h2, List.take_append_drop]
  have e2 := congrArg (fun l => bytesP (backK l 64)) e
  simp only [back_put (show (bitsP a).length = 64 by rw [bitsP_len, ha]), back_put (show (bitsP b).length = 64 by rw [bitsP_len, hb]), bytes_bits ha, bytes_bits hb] at e2
  exact e2
theorem desP_inj {key a b : List UInt8} (ha : a.length = 8) (hb : b.length = 8) (h : desP key a = desP key b) : a = b := by
  have e := congrArg (fun l => putP (bitsP l) firstO 64) h
  simp only [bits_desP] at e
  obtain ⟨h1, h2⟩ := List.append_inj e (by rw [(rounds_len key a 16).2, (rounds_len key b 16).2])
  exact start_inj ha hb (rounds_inj 16 (Prod.ext h2 h1))

/-! ### A key whose rounds' keys are all alike -/
def swapP (p : List UInt8 × List UInt8) : List UInt8 × List UInt8 := (p.2, p.1)
def itP (k : List UInt8) (p : List UInt8 × List UInt8) : Nat → List UInt8 × List UInt8
  | 0 => p
  | n + 1 => roundP k (itP k p n)
theorem itP_succ (k : List UInt8) (p : List UInt8 × List UInt8) (n : Nat) : itP k (roundP k p) n = itP k p (n + 1) := by
  induction n with
  | zero => rfl
  | succ n ih => show roundP k _ = roundP k _; rw [ih]
theorem itP_len (k : List UInt8) {p : List UInt8 × List UInt8} (h1 : p.1.length = 32) (h2 : p.2.length = 32) (n : Nat) : (itP k p n).1.length = 32 ∧ (itP k p n).2.length = 32 := by
  induction n with
  | zero => exact ⟨h1, h2⟩
  | succ n ih => exact ⟨ih.2, xorP_len _ _ _⟩
theorem round_swap (k : List UInt8) {p : List UInt8 × List UInt8} (h : p.1.length = 32) : roundP k (swapP (roundP k p)) = swapP p := by
  unfold roundP swapP
  exact Prod.ext rfl (xorP_undo _ h)
theorem itP_swap (k : List UInt8) {p : List UInt8 × List UInt8} (h1 : p.1.length = 32) (h2 : p.2.length = 32) (n : Nat) : itP k (swapP (itP k p n)) n = swapP p := by
  induction n with
  | zero => rfl
  | succ n ih =>
    rw [← itP_succ]
    show itP k (roundP k (swapP (roundP k (itP k p n)))) n = _
    rw [round_swap k (itP_len k h1 h2 n).1, ih]
theorem rounds_it {key x k : List UInt8} (h : ∀ r, r < 16 → keyP key (r + 1) = k) : ∀ n, n ≤ 16 → roundsP key x n = itP k (roundsP key x 0) n
  | 0, _ => rfl
  | n + 1, hn => by
    show roundP _ _ = roundP _ _
    rw [h n (by omega), rounds_it h n (by omega)]
theorem desP_twice {key x k : List UInt8} (h : ∀ r, r < 16 → keyP key (r + 1) = k) (hx : x.length = 8) : desP key (desP key x) = x := by
  have hl := rounds_len key x 0
  have e0 : roundsP key (desP key x) 0 = swapP (itP k (roundsP key x 0) 16) := by
    show (List.take 32 _, List.drop 32 _) = _
    have h2 := (rounds_len key x 16).2
    rw [bits_desP, ← rounds_it h 16 (by omega), List.take_left' h2, List.drop_left' h2]; rfl
  have e1 : roundsP key (desP key x) 16 = swapP (roundsP key x 0) := by
    rw [rounds_it h 16 (by omega), e0, itP_swap k hl.1 hl.2]
  show bytesP (backK ((roundsP key (desP key x) 16).2 ++ (roundsP key (desP key x) 16).1) 64) = x
  rw [e1]
  show bytesP (backK (List.take 32 (putP (bitsP x) firstO 64) ++ List.drop 32 (putP (bitsP x) firstO 64)) 64) = x
  rw [List.take_append_drop, back_put (by rw [bitsP_len, hx]), bytes_bits hx]
theorem keys_noughts : ∀ r, r < 16 → keyP (List.replicate 7 0) (r + 1) = List.replicate 48 0 := by
  have h : ∀ r : Fin 16, keyP (List.replicate 7 0) (r.val + 1) = List.replicate 48 0 := by decide +kernel
  exact fun r hr => h ⟨r, hr⟩
theorem keys_ones : ∀ r, r < 16 → keyP (List.replicate 7 255) (r + 1) = List.replicate 48 1 := by
  have h : ∀ r : Fin 16, keyP (List.replicate 7 255) (r.val + 1) = List.replicate 48 1 := by decide +kernel
  exact fun r hr => h ⟨r, hr⟩
end Go.Proofs.Ytififgodhnelgaa
