/-
  Stored blocks in plain.
-/
import Derived.Test.YtgmopcbfgcagaaaDoorI9
namespace Go.Proofs.YtgmopcbfgcagaaaDoor
open Go V

theorem all_bytes {p : UInt8 → Bool} (h : (List.range 256).all (fun c => p (UInt8.ofNat c)) = true) (c : UInt8) : p c = true := by
  have := List.all_eq_true.1 h c.toNat (List.mem_range.2 c.toNat_lt)
  simpa using this
theorem numL_add (l : List UInt8) (at_ j k : Nat) : numL l at_ (j + k) = numL l at_ j + numL l (at_ + j) k * 2 ^ j := by
  induction k with
  | zero => simp [numL]
  | succ k ih =>
    show numL l at_ (j + k) + bitL l (at_ + (j + k)) * 2 ^ (j + k) = numL l at_ j + (numL l (at_ + j) k + bitL l (at_ + j + k) * 2 ^ k) * 2 ^ j
    rw [ih, Nat.add_mul, ← Nat.add_assoc, Nat.add_assoc at_ j k, Nat.pow_add]
    have : bitL l (at_ + (j + k)) * (2 ^ j * 2 ^ k) = bitL l (at_ + (j + k)) * 2 ^ k * 2 ^ j := by rw [Nat.mul_comm (2 ^ j), Nat.mul_assoc]
    rw [this, Nat.add_assoc]
theorem bitL_in (l : List UInt8) (p i : Nat) (hi : i < 8) : bitL l (8 * p + i) = (l.getD p 0).toNat / 2 ^ i % 2 := by
  unfold bitL
  rw [show (8 * p + i) / 8 = p from by omega, show (8 * p + i) % 8 = i from by omega]
theorem numL_8 (l : List UInt8) (p : Nat) : numL l (8 * p) 8 = (l.getD p 0).toNat := by
  have e : numL l (8 * p) 8 = ((((((((0 + bitL l (8 * p + 0) * 2 ^ 0) + bitL l (8 * p + 1) * 2 ^ 1) + bitL l (8 * p + 2) * 2 ^ 2) + bitL l (8 * p + 3) * 2 ^ 3) + bitL l (8 * p + 4) * 2 ^ 4) + bitL l (8 * p + 5) * 2 ^ 5) + bitL l (8 * p + 6) * 2 ^ 6) + bitL l (8 * p + 7) * 2 ^ 7) := rfl
  rw [e, bitL_in l p 0 (by omega), bitL_in l p 1 (by omega), bitL_in l p 2 (by omega), bitL_in l p 3 (by omega), bitL_in l p 4 (by omega), bitL_in l p 5 (by omega), bitL_in l p 6 (by omega), bitL_in l p 7 (by omega)]
  have := (l.getD p 0).toNat_lt
  omega
theorem numL_16 (l : List UInt8) (p : Nat) : numL l (8 * p) 16 = (l.getD p 0).toNat + 256 * (l.getD (p + 1) 0).toNat := by
  rw [show (16 : Nat) = 8 + 8 from rfl, numL_add, numL_8, show 8 * p + 8 = 8 * (p + 1) from by omega, numL_8]
  omega
theorem xor_16 (a b c d : Nat) (ha : a < 256) (hb : b < 256) (hc : c < 256) (hd : d < 256) : (a + 256 * b) ^^^ (c + 256 * d) = 65535 ↔ a ^^^ c = 255 ∧ b ^^^ d = 255 := by
  have hm : ((a + 256 * b) ^^^ (c + 256 * d)) % 256 = a ^^^ c := by
    have := Nat.xor_mod_two_pow (a := a + 256 * b) (b := c + 256 * d) (n := 8)
    rw [show (2 : Nat) ^ 8 = 256 from rfl] at this
    rw [this, show (a + 256 * b) % 256 = a from by omega, show (c + 256 * d) % 256 = c from by omega]
  have hv : ((a + 256 * b) ^^^ (c + 256 * d)) / 256 = b ^^^ d := by
    have := Nat.xor_div_two_pow (a := a + 256 * b) (b := c + 256 * d) (n := 8)
    rw [show (2 : Nat) ^ 8 = 256 from rfl] at this
    rw [this, show (a + 256 * b) / 256 = b from by omega, show (c + 256 * d) / 256 = d from by omega]
  omega
theorem xor_not (x y : UInt8) : x.toNat ^^^ y.toNat = 255 ↔ y = ~~~x := by
  constructor
  · intro h
    have h2 : (x ^^^ y).toNat = 255 := by rw [UInt8.toNat_xor]; exact h
    have h3 : x ^^^ y = 255 := UInt8.toNat_inj.1 (by rw [h2]; rfl)
    have h4 : y = x ^^^ 255 := by rw [← h3, ← UInt8.xor_assoc, UInt8.xor_self, UInt8.zero_xor]
    rw [h4]
    have := all_bytes (p := fun x => x ^^^ 255 == ~~~x) (by decide +kernel) x
    simpa using this
  · rintro rfl
    have := all_bytes (p := fun x => x.toNat ^^^ (~~~x).toNat == 255) (by decide +kernel) x
    simpa using this

def hdr (f : UInt8) (n : Nat) : List UInt8 := [f, UInt8.ofNat n, UInt8.ofNat (n / 256), ~~~ UInt8.ofNat n, ~~~ UInt8.ofNat (n / 256)]
theorem getD_app_right (a b : List UInt8) (i : Nat) : (a ++ b).getD (a.length + i) 0 = b.getD i 0 := by
  rw [List.getD_eq_getElem?_getD, List.getD_eq_getElem?_getD, List.getElem?_append_right (by omega), Nat.add_sub_cancel_left]
theorem getD_app_left (a b : List UInt8) {i : Nat} (h : i < a.length) : (a ++ b).getD i 0 = a.getD i 0 := by
  rw [List.getD_eq_getElem?_getD, List.getD_eq_getElem?_getD, List.getElem?_append_left h]
theorem ofNat_split {n : Nat} (h : n < 65536) : (UInt8.ofNat n).toNat + 256 * (UInt8.ofNat (n / 256)).toNat = n := by
  have e1 : (UInt8.ofNat n).toNat = n % 256 := by simp
  have e2 : (UInt8.ofNat (n / 256)).toNat = n / 256 % 256 := by simp
  omega

/-- A stored block is read. -/
theorem blockF_stored {s : IS} {pre body rest : List UInt8} {f : UInt8} {n : Nat} (hl : s.l = pre ++ hdr f n ++ body ++ rest) (ha : s.at_ = 8 * pre.length) (hf : f = 0 ∨ f = 1) (hb : body.length = n) (hn : n < 65536) :
    NoDyn s ∧ blockF s = if s.most < s.all.length - s.from_ + n then .error 3 else .ok ({ s with at_ := 8 * (pre.length + 5 + n), all := s.all ++ body }, f == 1, n == 0) := by
  have hlen : s.l.length = pre.length + 5 + n + rest.length := by
    rw [hl, List.length_append, List.length_append, List.length_append, hb]; rfl
  have hg : ∀ i, i < 5 → s.l.getD (pre.length + i) 0 = (hdr f n).getD i 0 := by
    intro i hi
    rw [hl, List.append_assoc, List.append_assoc, getD_app_right, getD_app_left _ _ (by exact hi)]
  have h0 : s.l.getD pre.length 0 = f := hg 0 (by omega)
  have b0 : bitL s.l (8 * pre.length + 0) = f.toNat / 2 ^ 0 % 2 := by rw [bitL_in _ _ _ (by omega), h0]
  have b1 : bitL s.l (8 * pre.length + 1) = f.toNat / 2 ^ 1 % 2 := by rw [bitL_in _ _ _ (by omega), h0]
  have b2 : bitL s.l (8 * pre.length + 2) = f.toNat / 2 ^ 2 % 2 := by rw [bitL_in _ _ _ (by omega), h0]
  have n1 : numL s.l s.at_ 1 = f.toNat % 2 := by
    rw [ha]
    show 0 + bitL s.l (8 * pre.length + 0) * 2 ^ 0 = _
    rw [b0]; omega
  have n2 : numL s.l (s.at_ + 1) 2 = 0 := by
    rw [ha]
    show (0 + bitL s.l (8 * pre.length + 1 + 0) * 2 ^ 0) + bitL s.l (8 * pre.length + 1 + 1) * 2 ^ 1 = 0
    rw [show 8 * pre.length + 1 + 0 = 8 * pre.length + 1 from rfl, show 8 * pre.length + 1 + 1 = 8 * pre.length + 2 from rfl, b1, b2]
    rcases hf with rfl | rfl <;> rfl
  have hlast : (numL s.l s.at_ 1 == 1) = (f == 1) := by
    rw [n1]
    rcases hf with rfl | rfl <;> rfl
  have hal : alignP (s.at_ + 3) = 8 * (pre.length + 1) := by rw [ha]; unfold alignP; omega
  have l1 : numL s.l (8 * (pre.length + 1)) 16 = n := by
    rw [numL_16, hg 1 (by omega), show pre.length + 1 + 1 = pre.length + 2 from rfl, hg 2 (by omega)]
    exact ofNat_split hn
  have l2 : numL s.l (8 * (pre.length + 1) + 16) 16 = (~~~ UInt8.ofNat n).toNat + 256 * (~~~ UInt8.ofNat (n / 256)).toNat := by
    rw [show 8 * (pre.length + 1) + 16 = 8 * (pre.length + 3) from by omega, numL_16, hg 3 (by omega), show pre.length + 3 + 1 = pre.length + 4 from rfl, hg 4 (by omega)]
    rfl
  have hx : n ^^^ ((~~~ UInt8.ofNat n).toNat + 256 * (~~~ UInt8.ofNat (n / 256)).toNat) = 65535 := by
    conv => lhs; arg 1; rw [← ofNat_split hn]
    exact (xor_16 _ _ _ _ (UInt8.toNat_lt _) (UInt8.toNat_lt _) (UInt8.toNat_lt _) (UInt8.toNat_lt _)).2 ⟨(xor_not _ _).2 rfl, (xor_not _ _).2 rfl⟩
  refine ⟨by unfold NoDyn; rw [n2]; decide, ?_⟩
  have hbody : (s.l.take (pre.length + 1 + 4 + n)).drop (pre.length + 1 + 4) = body := by
    have e1 : (pre ++ hdr f n).length = pre.length + 1 + 4 := by rw [List.length_append]; rfl
    rw [hl, List.append_assoc, ← e1, List.take_length_add_append, List.drop_left' rfl, List.take_left' hb]
  unfold blockF
  rw [if_neg (by omega), if_neg (by omega), if_pos n2]
  unfold plainF
  dsimp only
  rw [hal, show 8 * (pre.length + 1) / 8 = pre.length + 1 from by omega, l1, l2, hx, if_neg (by omega), if_neg (by omega), if_neg (by omega), if_pos (by omega)]
  by_cases hr : s.most < s.all.length - s.from_ + n
  · rw [if_pos hr, if_pos hr]
  · rw [if_neg hr, if_neg hr]
    dsimp only
    have e : pre.length + 1 + 4 + n = pre.length + 5 + n := by omega
    rw [hbody, hlast, e]
/-- A byte of a block's length is another one: it is told. -/
theorem blockF_bent {s : IS} {f x1 x2 x3 x4 : UInt8} {rest : List UInt8} (hl : s.l = [f, x1, x2, x3, x4] ++ rest) (ha : s.at_ = 0) (hf : f = 0 ∨ f = 1) (hx : ¬ (x3 = ~~~x1 ∧ x4 = ~~~x2)) : NoDyn s ∧ blockF s = .error 10 := by
  have hlen : s.l.length = 5 + rest.length := by rw [hl, List.length_append]; rfl
  have h0 : s.l.getD 0 0 = f := by rw [hl]; rfl
  have b0 : bitL s.l (8 * 0 + 0) = f.toNat / 2 ^ 0 % 2 := by rw [bitL_in _ _ _ (by omega), h0]
  have b1 : bitL s.l (8 * 0 + 1) = f.toNat / 2 ^ 1 % 2 := by rw [bitL_in _ _ _ (by omega), h0]
  have b2 : bitL s.l (8 * 0 + 2) = f.toNat / 2 ^ 2 % 2 := by rw [bitL_in _ _ _ (by omega), h0]
  have n2 : numL s.l (s.at_ + 1) 2 = 0 := by
    rw [ha]
    show (0 + bitL s.l (8 * 0 + 1) * 2 ^ 0) + bitL s.l (8 * 0 + 2) * 2 ^ 1 = 0
    rw [b1, b2]
    rcases hf with rfl | rfl <;> rfl
  have hal : alignP (s.at_ + 3) = 8 * 1 := by rw [ha]; rfl
  have l1 : numL s.l (8 * 1) 16 = x1.toNat + 256 * x2.toNat := by rw [numL_16, hl]; rfl
  have l2 : numL s.l (8 * 1 + 16) 16 = x3.toNat + 256 * x4.toNat := by
    rw [show 8 * 1 + 16 = 8 * 3 from rfl, numL_16, hl]; rfl
  refine ⟨by unfold NoDyn; rw [n2]; decide, ?_⟩
  unfold blockF
  rw [if_neg (by omega), if_neg (by omega), if_pos n2]
  unfold plainF
  dsimp only
  rw [hal, l1, l2, if_neg (by omega), if_neg (by omega), if_pos (fun h => ?_)]
  have := (xor_16 _ _ _ _ (UInt8.toNat_lt _) (UInt8.toNat_lt _) (UInt8.toNat_lt _) (UInt8.toNat_lt _)).1 h
  exact hx ⟨(xor_not _ _).1 this.1, (xor_not _ _).1 this.2⟩

/-! ### Rows of stored blocks -/
/-- Each part as a block, the last one marked. -/
def partsP : List (List UInt8) → List UInt8
  | [] => []
  | [p] => hdr 1 p.length ++ p
  | p :: q :: r => hdr 0 p.length ++ p ++ partsP (q :: r)
/-- What is made of parts, from a state on. -/
theorem parts_read {most : Nat} : ∀ (ps : List (List UInt8)) (pre l all : List UInt8) (f : Nat), ps ≠ [] → (∀ p ∈ ps, p.length < 65536) → l = pre ++ partsP ps → ps.length ≤ f →
    NoDyns f ⟨l, 8 * pre.length, all, 0, most⟩ ∧ (if all.length + ps.flatten.length ≤ most then blocksF f ⟨l, 8 * pre.length, all, 0, most⟩ = .ok ⟨l, 8 * l.length, all ++ ps.flatten, 0, most⟩ else all.length ≤ most → blocksF f ⟨l, 8 * pre.length, all, 0, most⟩ = .error 3)
  | [], _, _, _, _, h, _, _, _ => absurd rfl h
  | [p], pre, l, all, f, _, hp, hl, hf => by
    obtain ⟨g, rfl⟩ : ∃ g, f = g + 1 := ⟨f - 1, by have : 1 ≤ f := hf; omega⟩
    have hp := hp p (by simp)
    have hl' : l = pre ++ hdr 1 p.length ++ p ++ [] := by rw [hl, partsP, List.append_nil, List.append_assoc]
    obtain ⟨h1, h2⟩ := blockF_stored (s := ⟨l, 8 * pre.length, all, 0, most⟩) hl' rfl (.inr rfl) rfl hp
    dsimp only at h2
    have hfl : [p].flatten = p := by simp
    rw [hfl]
    have hll : l.length = pre.length + 5 + p.length := by rw [hl', List.length_append, List.length_append, List.length_append]; rfl
    by_cases hm : all.length + p.length ≤ most
    · rw [if_neg (by omega)] at h2
      rw [if_pos hm]
      refine ⟨⟨h1, by rw [h2]; exact trivial⟩, ?_⟩
      unfold blocksF
      rw [h2, hll]
      rfl
    · rw [if_pos (by omega)] at h2
      rw [if_neg hm]
      refine ⟨⟨h1, by rw [h2]; trivial⟩, fun _ => ?_⟩
      unfold blocksF
      rw [h2]
  | p :: q :: r, pre, l, all, f, _, hp, hl, hf => by
    obtain ⟨g, rfl⟩ : ∃ g, f = g + 1 := ⟨f - 1, by have : (p :: q :: r).length ≤ f := hf; simp at this; omega⟩
    have hp0 := hp p (by simp)
    have hl' : l = pre ++ hdr 0 p.length ++ p ++ partsP (q :: r) := by rw [hl, partsP, List.append_assoc, List.append_assoc, List.append_assoc]
    obtain ⟨h1, h2⟩ := blockF_stored (s := ⟨l, 8 * pre.length, all, 0, most⟩) hl' rfl (.inl rfl) rfl hp0
    dsimp only at h2
    have hpl : (pre ++ hdr 0 p.length ++ p).length = pre.length + 5 + p.length := by rw [List.length_append, List.length_append]; rfl
    obtain ⟨i1, i2⟩ := parts_read (most := most) (q :: r) (pre ++ hdr 0 p.length ++ p) l (all ++ p) g (by simp) (fun x hx => hp x (by simp at hx ⊢; exact .inr hx)) hl' (by simp at hf ⊢; omega)
    rw [hpl] at i1 i2
    rw [List.length_append] at i2
    have hfl : (p :: q :: r).flatten = p ++ (q :: r).flatten := by simp
    rw [hfl, List.length_append]
    by_cases hm : most < all.length + p.length
    · rw [if_pos (by omega)] at h2
      rw [if_neg (by omega)]
      refine ⟨⟨h1, by rw [h2]; trivial⟩, fun _ => ?_⟩
      unfold blocksF
      rw [h2]
    · rw [if_neg (by omega)] at h2
      refine ⟨⟨h1, by rw [h2]; exact i1⟩, ?_⟩
      have e : blocksF (g + 1) ⟨l, 8 * pre.length, all, 0, most⟩ = blocksF g ⟨l, 8 * (pre.length + 5 + p.length), all ++ p, 0, most⟩ := by
        conv => lhs; unfold blocksF
        rw [h2]
        rfl
      rw [e]
      by_cases ht : all.length + (p.length + (q :: r).flatten.length) ≤ most
      · rw [if_pos ht]
        rw [if_pos (by omega)] at i2
        rw [i2, List.append_assoc]
      · rw [if_neg ht]
        rw [if_neg (by omega)] at i2
        exact fun _ => i2 (by omega)

theorem partsP_snoc : ∀ (ps : List (List UInt8)) (p : List UInt8), partsP (ps ++ [p]) = (ps.flatMap fun q => hdr 0 q.length ++ q) ++ hdr 1 p.length ++ p
  | [], p => by simp [partsP]
  | [q], p => by simp [partsP]
  | q :: r :: t, p => by
    have ih := partsP_snoc (r :: t) p
    have e : partsP ((q :: r :: t) ++ [p]) = hdr 0 q.length ++ q ++ partsP ((r :: t) ++ [p]) := rfl
    rw [e, ih]
    simp [List.flatMap_cons]

/-! ### The law's own row -/
def nK (b zs : List UInt8) (i a : Nat) : Nat := if i < zs.length then min (zs.getD i 0).toNat (b.length - a) else b.length - a
def posK (b zs : List UInt8) : Nat → Nat
  | 0 => 0
  | i + 1 => posK b zs i + nK b zs i (posK b zs i)
def prtK (b zs : List UInt8) (i : Nat) : List UInt8 := (b.take (posK b zs (i + 1))).drop (posK b zs i)
def outK (b zs : List UInt8) : Nat → List UInt8
  | 0 => []
  | i + 1 => outK b zs i ++ hdr (if i < zs.length then 0 else 1) (nK b zs i (posK b zs i)) ++ prtK b zs i
theorem nK_le (b zs : List UInt8) (i a : Nat) : nK b zs i a ≤ b.length - a := by unfold nK; split <;> omega
theorem posK_le (b zs : List UInt8) (i : Nat) : posK b zs i ≤ b.length := by
  induction i with
  | zero => simp [posK]
  | succ i ih => have := nK_le b zs i (posK b zs i); unfold posK; omega
theorem prtK_len (b zs : List UInt8) (i : Nat) : (prtK b zs i).length = nK b zs i (posK b zs i) := by
  have h1 := posK_le b zs (i + 1)
  have e : posK b zs (i + 1) = posK b zs i + nK b zs i (posK b zs i) := rfl
  unfold prtK
  rw [List.length_drop, List.length_take]; omega
theorem outK_len (b zs : List UInt8) (i : Nat) : (outK b zs i).length = 5 * i + posK b zs i := by
  induction i with
  | zero => rfl
  | succ i ih =>
    have e : posK b zs (i + 1) = posK b zs i + nK b zs i (posK b zs i) := rfl
    rw [outK, List.length_append, List.length_append, ih, prtK_len, e]
    have : (hdr (if i < zs.length then 0 else 1) (nK b zs i (posK b zs i))).length = 5 := rfl
    omega
theorem outK_flat (b zs : List UInt8) : ∀ i, i ≤ zs.length → outK b zs i = ((List.range i).map (prtK b zs)).flatMap fun q => hdr 0 q.length ++ q := by
  intro i
  induction i with
  | zero => intro _; rfl
  | succ i ih =>
    intro h
    rw [outK, ih (by omega), if_pos (by omega), List.range_succ, List.map_append, List.flatMap_append]
    simp [prtK_len]
def psK (b zs : List UInt8) : List (List UInt8) := (List.range (zs.length + 1)).map (prtK b zs)
theorem outK_parts (b zs : List UInt8) : outK b zs (zs.length + 1) = partsP (psK b zs) := by
  unfold psK
  rw [List.range_succ, List.map_append]
  show _ = partsP (_ ++ [prtK b zs zs.length])
  rw [partsP_snoc, outK, outK_flat b zs _ (Nat.le_refl _), if_neg (by omega), prtK_len]
theorem flat_take (b zs : List UInt8) : ∀ i, ((List.range i).map (prtK b zs)).flatten = b.take (posK b zs i) := by
  intro i
  induction i with
  | zero => simp [posK]
  | succ i ih =>
    rw [List.range_succ, List.map_append, List.flatten_append, ih]
    have e : posK b zs (i + 1) = posK b zs i + nK b zs i (posK b zs i) := rfl
    simp only [List.map_cons, List.map_nil, List.flatten_cons, List.flatten_nil, List.append_nil]
    unfold prtK
    have h1 : b.take (posK b zs i) = (b.take (posK b zs (i + 1))).take (posK b zs i) := by rw [List.take_take, Nat.min_eq_left (by omega)]
    rw [h1, List.take_append_drop]
theorem posK_end (b zs : List UInt8) : posK b zs (zs.length + 1) = b.length := by
  have h := posK_le b zs zs.length
  show posK b zs zs.length + nK b zs zs.length (posK b zs zs.length) = _
  unfold nK
  rw [if_neg (by omega)]; omega
theorem psK_flat (b zs : List UInt8) : (psK b zs).flatten = b := by
  unfold psK
  rw [flat_take, posK_end, List.take_length]
theorem psK_short (b zs : List UInt8) (h : b.length < 65536) : ∀ p ∈ psK b zs, p.length < 65536 := by
  intro p hp
  obtain ⟨i, _, rfl⟩ := List.mem_map.1 hp
  have := nK_le b zs i (posK b zs i)
  rw [prtK_len]; omega
theorem psK_len (b zs : List UInt8) : (psK b zs).length = zs.length + 1 := by simp [psK]
/-- The row's head. -/
theorem outK_head (b zs : List UInt8) : ∃ f n rest, outK b zs (zs.length + 1) = hdr f n ++ rest ∧ (f = 0 ∨ f = 1) := by
  have key : ∀ i, ∃ f n rest, outK b zs (i + 1) = hdr f n ++ rest ∧ (f = 0 ∨ f = 1) := by
    intro i
    induction i with
    | zero =>
      refine ⟨_, _, _, by rw [outK, outK, List.nil_append], ?_⟩
      split
      · exact .inl rfl
      · exact .inr rfl
    | succ i ih =>
      obtain ⟨f, n, rest, h1, h2⟩ := ih
      exact ⟨f, n, _, by rw [outK, h1, List.append_assoc, List.append_assoc], h2⟩
  exact key zs.length
theorem xor_ne {x y : UInt8} (h : y ≠ 0) : x ^^^ y ≠ x := fun e => h (by
  have := congrArg (fun z => x ^^^ z) e
  simp only [← UInt8.xor_assoc, UInt8.xor_self, UInt8.zero_xor] at this
  exact this)
/-- One of the bytes of a block's length turned. -/
theorem bent (f : UInt8) (n : Nat) (rest : List UInt8) (k : Nat) (hk : k < 4) {y : UInt8} (hy : y ≠ 0) : ∃ x1 x2 x3 x4, (hdr f n ++ rest).set (1 + k) ((hdr f n ++ rest).getD (1 + k) 0 ^^^ y) = [f, x1, x2, x3, x4] ++ rest ∧ ¬ (x3 = ~~~x1 ∧ x4 = ~~~x2) := by
  have hk4 : k = 0 ∨ k = 1 ∨ k = 2 ∨ k = 3 := by omega
  have nn : ∀ a b : UInt8, ~~~a = ~~~b → a = b := fun a b h => by have := congrArg (~~~ ·) h; simpa using this
  rcases hk4 with rfl | rfl | rfl | rfl
  · exact ⟨_, _, _, _, rfl, fun h => xor_ne hy (nn _ _ h.1).symm⟩
  · exact ⟨_, _, _, _, rfl, fun h => xor_ne hy (nn _ _ h.2).symm⟩
  · exact ⟨_, _, _, _, rfl, fun h => xor_ne hy h.1⟩
  · exact ⟨_, _, _, _, rfl, fun h => xor_ne hy h.2⟩
end Go.Proofs.YtgmopcbfgcagaaaDoor
