/-
  Small lemmas by which the obligations of the transformer are met.
-/
import Derived.Test.YtgmopcbfgcagaaaDoorVd
namespace Go.Proofs.YtgmopcbfgcagaaaDoor.V
open Go Go.RowKit

theorem wrap_i64 {e : Int} (h : -9223372036854775808 ≤ e ∧ e ≤ 9223372036854775807) : IntKind.wrap .i64 e = e := by
  have := IntWalk.i64_in e h
  simpa using this

theorem VRes.i64 {e : Int} {K : Value → Prop} (h : -9223372036854775808 ≤ e ∧ e ≤ 9223372036854775807) (hK : K (.int .i64 e)) : VRes (.int .i64 (IntKind.wrap .i64 e)) K := ⟨by rw [wrap_i64 h]; exact hK⟩

theorem wrap_u {k : IntKind} (hk : k.signed = false) {e : Int} (h0 : 0 ≤ e) (h1 : e < 2 ^ k.bits) : IntKind.wrap k e = e := by
  unfold IntKind.wrap
  rw [hk]
  simp only [Bool.false_and, Bool.false_eq_true, if_false]
  exact Int.emod_eq_of_lt h0 h1

theorem VRes.u64 {e : Int} {K : Value → Prop} (h : 0 ≤ e ∧ e ≤ 18446744073709551615) (hK : K (.int .u64 e)) : VRes (.int .u64 (IntKind.wrap .u64 e)) K := ⟨by rw [wrap_u rfl h.1 (by show e < 18446744073709551616; omega)]; exact hK⟩
theorem VRes.u32 {e : Int} {K : Value → Prop} (h : 0 ≤ e ∧ e ≤ 4294967295) (hK : K (.int .u32 e)) : VRes (.int .u32 (IntKind.wrap .u32 e)) K := ⟨by rw [wrap_u rfl h.1 (by show e < 4294967296; omega)]; exact hK⟩
theorem VRes.u8 {e : Int} {K : Value → Prop} (h : 0 ≤ e ∧ e ≤ 255) (hK : K (.int .u8 e)) : VRes (.int .u8 (IntKind.wrap .u8 e)) K := ⟨by rw [wrap_u rfl h.1 (by show e < 256; omega)]; exact hK⟩

theorem wrap_nat8 (x : Nat) : IntKind.wrap .u8 (x : Int) = ((x % 256 : Nat) : Int) := by
  unfold IntKind.wrap
  simp [IntKind.signed, IntKind.bits]
theorem wrap_nat16 (x : Nat) : IntKind.wrap .u16 (x : Int) = ((x % 65536 : Nat) : Int) := by
  unfold IntKind.wrap
  simp [IntKind.signed, IntKind.bits]
theorem wrap_nat32 (x : Nat) : IntKind.wrap .u32 (x : Int) = ((x % 4294967296 : Nat) : Int) := by
  unfold IntKind.wrap
  simp [IntKind.signed, IntKind.bits]
theorem wrap_nat64 (x : Nat) : IntKind.wrap .u64 (x : Int) = ((x % 18446744073709551616 : Nat) : Int) := by
  unfold IntKind.wrap
  simp [IntKind.signed, IntKind.bits]

/-- A byte as a value; a word of 32 bits; an int. -/
def vb (x : UInt8) : Value := .int .u8 (x.toNat : Int)
def vw (x : BitVec 32) : Value := .int .u32 (x.toNat : Int)

theorem ofInt_toNat8 (x : UInt8) : BitVec.ofInt 8 (x.toNat : Int) = x.toBitVec := by
  rw [BitVec.ofInt_natCast]; exact BitVec.eq_of_toNat_eq (by simp)
theorem ofInt_toNat32 (x : BitVec 32) : BitVec.ofInt 32 (x.toNat : Int) = x := by
  rw [BitVec.ofInt_natCast]; exact BitVec.eq_of_toNat_eq (by simp)

theorem VRes.xor8 {x y : UInt8} {l : Int} {K : Value → Prop} (hl : l = (y.toNat : Int)) (hK : K (.int .u8 ((x ^^^ y).toNat : Int))) :
    VRes (.int .u8 (IntKind.wrap .u8 ((BitVec.ofInt (IntKind.bits .u8) (x.toNat : Int) ^^^ BitVec.ofInt (IntKind.bits .u8) l).toNat : Int))) K := by
  subst hl
  show VRes (.int .u8 (IntKind.wrap .u8 ((BitVec.ofInt 8 (x.toNat : Int) ^^^ BitVec.ofInt 8 (y.toNat : Int)).toNat : Int))) K
  rw [ofInt_toNat8, ofInt_toNat8, wrap_nat8, Nat.mod_eq_of_lt (BitVec.isLt _)]
  exact ⟨by simpa using hK⟩

theorem VRes.and32 {x y : BitVec 32} {l : Int} {K : Value → Prop} (hl : l = (y.toNat : Int)) (hK : K (.int .u32 ((x &&& y).toNat : Int))) :
    VRes (.int .u32 (IntKind.wrap .u32 ((BitVec.ofInt (IntKind.bits .u32) (x.toNat : Int) &&& BitVec.ofInt (IntKind.bits .u32) l).toNat : Int))) K := by
  subst hl
  show VRes (.int .u32 (IntKind.wrap .u32 ((BitVec.ofInt 32 (x.toNat : Int) &&& BitVec.ofInt 32 (y.toNat : Int)).toNat : Int))) K
  rw [ofInt_toNat32, ofInt_toNat32, wrap_nat32, Nat.mod_eq_of_lt (BitVec.isLt _)]
  exact ⟨hK⟩

theorem VRes.shr32 {x : BitVec 32} {k : Nat} {l : Int} {K : Value → Prop} (hl : l = (k : Int)) (hK : K (.int .u32 ((x >>> k).toNat : Int))) :
    VRes (.int .u32 ((x.toNat : Int).fdiv (2 ^ (min l.toNat (IntKind.bits .u32))))) K := by
  subst hl
  have e : ((x.toNat : Int).fdiv (2 ^ (min (Int.toNat (k : Int)) (IntKind.bits .u32)))) = ((x >>> k).toNat : Int) := by
    rw [Int.fdiv_eq_ediv_of_nonneg _ (Int.pow_nonneg (by omega))]
    show (x.toNat : Int) / (2 ^ (min (Int.toNat (k : Int)) 32)) = _
    rw [BitVec.toNat_ushiftRight, Nat.shiftRight_eq_div_pow]
    have h2 : ((2 : Int) ^ (min (Int.toNat (k : Int)) 32)) = ((2 ^ (min k 32) : Nat) : Int) := by simp
    rw [h2, ← Int.natCast_ediv]
    congr 1
    by_cases hk : k ≤ 32
    · rw [Nat.min_eq_left hk]
    · rw [Nat.min_eq_right (by omega)]
      have hx := x.isLt
      have h3 : 2 ^ 32 ≤ 2 ^ k := Nat.pow_le_pow_right (by omega) (by omega)
      rw [Nat.div_eq_of_lt hx, Nat.div_eq_of_lt (by omega)]
  rw [e]
  exact ⟨hK⟩

theorem VRes.or32 {x y : BitVec 32} {a b : Int} {K : Value → Prop} (ha : a = (x.toNat : Int)) (hb : b = (y.toNat : Int)) (hK : K (.int .u32 ((x ||| y).toNat : Int))) :
    VRes (.int .u32 (IntKind.wrap .u32 ((BitVec.ofInt (IntKind.bits .u32) a ||| BitVec.ofInt (IntKind.bits .u32) b).toNat : Int))) K := by
  subst ha; subst hb
  show VRes (.int .u32 (IntKind.wrap .u32 ((BitVec.ofInt 32 (x.toNat : Int) ||| BitVec.ofInt 32 (y.toNat : Int)).toNat : Int))) K
  rw [ofInt_toNat32, ofInt_toNat32, wrap_nat32, Nat.mod_eq_of_lt (BitVec.isLt _)]
  exact ⟨hK⟩
theorem VRes.xor32 {x y : BitVec 32} {a b : Int} {K : Value → Prop} (ha : a = (x.toNat : Int)) (hb : b = (y.toNat : Int)) (hK : K (.int .u32 ((x ^^^ y).toNat : Int))) :
    VRes (.int .u32 (IntKind.wrap .u32 ((BitVec.ofInt (IntKind.bits .u32) a ^^^ BitVec.ofInt (IntKind.bits .u32) b).toNat : Int))) K := by
  subst ha; subst hb
  show VRes (.int .u32 (IntKind.wrap .u32 ((BitVec.ofInt 32 (x.toNat : Int) ^^^ BitVec.ofInt 32 (y.toNat : Int)).toNat : Int))) K
  rw [ofInt_toNat32, ofInt_toNat32, wrap_nat32, Nat.mod_eq_of_lt (BitVec.isLt _)]
  exact ⟨hK⟩
theorem VRes.not32 {x : BitVec 32} {a : Int} {K : Value → Prop} (ha : a = (x.toNat : Int)) (hK : K (.int .u32 ((~~~x).toNat : Int))) :
    VRes (.int .u32 (IntKind.wrap .u32 ((BitVec.ofInt (IntKind.bits .u32) (if IntKind.signed .u32 = true then -1 else IntKind.max .u32) ^^^ BitVec.ofInt (IntKind.bits .u32) a).toNat : Int))) K := by
  subst ha
  have e : BitVec.ofInt 32 (if IntKind.signed .u32 = true then -1 else IntKind.max .u32) = BitVec.allOnes 32 := by decide
  show VRes (.int .u32 (IntKind.wrap .u32 ((BitVec.ofInt 32 (if IntKind.signed .u32 = true then -1 else IntKind.max .u32) ^^^ BitVec.ofInt 32 (x.toNat : Int)).toNat : Int))) K
  rw [e]
  show VRes (.int .u32 (IntKind.wrap .u32 ((BitVec.allOnes 32 ^^^ BitVec.ofInt 32 (x.toNat : Int)).toNat : Int))) K
  rw [ofInt_toNat32, wrap_nat32, Nat.mod_eq_of_lt (BitVec.isLt _), BitVec.allOnes_xor]
  exact ⟨hK⟩
theorem VRes.add32 {x y : BitVec 32} {a b : Int} {K : Value → Prop} (ha : a = (x.toNat : Int)) (hb : b = (y.toNat : Int)) (hK : K (.int .u32 ((x + y).toNat : Int))) :
    VRes (.int .u32 (IntKind.wrap .u32 (a + b))) K := by
  subst ha; subst hb
  have e : (x.toNat : Int) + (y.toNat : Int) = ((x.toNat + y.toNat : Nat) : Int) := by omega
  rw [e, wrap_nat32, ← BitVec.toNat_add]
  exact ⟨hK⟩
theorem VRes.shl32 {x : BitVec 32} {k : Nat} {a l : Int} {K : Value → Prop} (ha : a = (x.toNat : Int)) (hl : l = (k : Int)) (hK : K (.int .u32 ((x <<< k).toNat : Int))) :
    VRes (.int .u32 (IntKind.wrap .u32 (a * 2 ^ (min l.toNat (IntKind.bits .u32))))) K := by
  subst ha; subst hl
  have e : IntKind.wrap .u32 ((x.toNat : Int) * 2 ^ (min (Int.toNat (k : Int)) (IntKind.bits .u32))) = ((x <<< k).toNat : Int) := by
    have h2 : (x.toNat : Int) * 2 ^ (min (Int.toNat (k : Int)) (IntKind.bits .u32)) = ((x.toNat * 2 ^ (min k 32) : Nat) : Int) := by
      show (x.toNat : Int) * 2 ^ (min (Int.toNat (k : Int)) 32) = _
      simp
    rw [h2, wrap_nat32, BitVec.toNat_shiftLeft, Nat.shiftLeft_eq]
    congr 1
    by_cases hk : k ≤ 32
    · rw [Nat.min_eq_left hk]
    · rw [Nat.min_eq_right (by omega)]
      have h3 : 2 ^ k = 2 ^ 32 * 2 ^ (k - 32) := by rw [← Nat.pow_add]; congr 1; omega
      rw [h3, ← Nat.mul_assoc, Nat.mul_comm x.toNat, Nat.mul_assoc]
      show _ % 2 ^ 32 = _ % 2 ^ 32
      rw [Nat.mul_mod_right, Nat.mul_mod_right]
  rw [e]
  exact ⟨hK⟩

/-- A shift right of a natural number, by no more than its kind's bits. -/
theorem VRes.shrN {k : IntKind} {N s : Nat} {a l : Int} {K : Value → Prop} (ha : a = (N : Int)) (hl : l = (s : Int)) (hs : s ≤ k.bits) (hK : K (.int k ((N / 2 ^ s : Nat) : Int))) :
    VRes (.int k (a.fdiv (2 ^ (min l.toNat k.bits)))) K := by
  subst ha; subst hl
  have e : ((N : Int).fdiv (2 ^ (min (Int.toNat (s : Int)) k.bits))) = ((N / 2 ^ s : Nat) : Int) := by
    rw [Int.fdiv_eq_ediv_of_nonneg _ (Int.pow_nonneg (by omega))]
    rw [show min (Int.toNat (s : Int)) k.bits = s from by simp; omega]
    simp
  rw [e]
  exact ⟨hK⟩

/-- A byte out of a natural number. -/
theorem VRes.byte {N : Nat} {a : Int} {K : Value → Prop} (ha : a = (N : Int)) (hK : K (vb (UInt8.ofNat N))) : VRes (.int .u8 (IntKind.wrap .u8 a)) K := by
  subst ha
  rw [wrap_nat8]
  have e : vb (UInt8.ofNat N) = .int .u8 ((N % 256 : Nat) : Int) := by unfold vb; simp
  rw [e] at hK
  exact ⟨hK⟩

/-! ### Slices -/

/-- The slice at A, of n elements of 'size' cells each, holds the cells xs. -/
def Sl (w : World) (size : Nat) (A : Option Addr) (n : Nat) (xs : List Value) : Prop :=
  xs.length = n * size ∧ (n = 0 ∨ ∃ b o, A = some ⟨b, o, none⟩ ∧ ∀ j v, xs[j]? = some v → w.cell? ⟨b, o + j, none⟩ = some v)

theorem Sl.nil {w : World} {size : Nat} {A : Option Addr} : Sl w size A 0 [] := ⟨by simp, .inl rfl⟩
theorem Sl.len {w : World} {A : Option Addr} {n : Nat} {xs : List Value} (h : Sl w 1 A n xs) : xs.length = n := by simpa using h.1
theorem Sl.at_ {w : World} {size : Nat} {A : Option Addr} {n : Nat} {xs : List Value} (h : Sl w size A n xs) (hn : 0 < n) :
    ∃ b o, A = some ⟨b, o, none⟩ ∧ ∀ j v, xs[j]? = some v → w.cell? ⟨b, o + j, none⟩ = some v := by
  rcases h.2 with h | h
  · omega
  · exact h
/-- Which blocks a slice leads to. -/
def blkOf : Option Addr → Nat → Prop
  | some a, k => a.block = k
  | none, _ => False
theorem Sl.keep {S : Nat → Prop} {w w' : World} {size : Nat} {A : Option Addr} {n : Nat} {xs : List Value} (h : Sl w size A n xs) (k : Keep S w w') (hs : ∀ a, A = some a → ¬ S a.block) : Sl w' size A n xs := by
  refine ⟨h.1, ?_⟩
  rcases h.2 with h0 | ⟨b, o, hA, hc⟩
  · exact .inl h0
  · exact .inr ⟨b, o, hA, fun j v hj => k.cell (hc j v hj) (hs ⟨b, o, none⟩ hA)⟩
theorem Sl.keepP {S : Nat → Prop} {w w' : World} {size : Nat} {A : Option Addr} {n : Nat} {xs : List Value} (h : Sl w size A n xs) (k : Keep S w w') (hs : ∀ a, A = some a → 0 < n → ¬ S a.block) : Sl w' size A n xs := by
  refine ⟨h.1, ?_⟩
  rcases h.2 with h0 | ⟨b, o, hA, hc⟩
  · exact .inl h0
  · rcases Nat.eq_zero_or_pos n with h0 | h0
    · exact .inl h0
    · exact .inr ⟨b, o, hA, fun j v hj => k.cell (hc j v hj) (hs ⟨b, o, none⟩ hA h0)⟩
theorem Sl.keepNo {w w' : World} {size : Nat} {A : Option Addr} {n : Nat} {xs : List Value} (h : Sl w size A n xs) (k : Keep No w w') : Sl w' size A n xs := h.keep k (fun _ _ => id)

theorem Sl.ofOwn {w : World} {base size n c : Nat} {e : TypeId} {A : Option Addr} {xs : List Value} (h : w.ownsRow base e size (.slice A n c) n xs) : Sl w size A n xs := by
  refine ⟨h.1, ?_⟩
  rcases Nat.eq_zero_or_pos n with h0 | h0
  · exact .inl h0
  · rcases h.2 with ⟨_, h1⟩ | ⟨g, cap, cur, hv, _⟩
    · omega
    · have hA : A = some ⟨g, 0, none⟩ := by injection hv
      subst hA
      exact .inr ⟨g, 0, rfl, fun j v hj => by
        have := World.ownsRow.cells h (g := g) rfl j v hj
        rw [addr_add] at this
        exact this⟩

theorem Sl.ofBlk {w : World} {b size n : Nat} {e : TypeId} {xs : List Value} (h : Blk w b e xs) (hl : xs.length = n * size) : Sl w size (some ⟨b, 0, none⟩) n xs :=
  ⟨hl, .inr ⟨b, 0, rfl, fun j v hj => by rw [h.cell]; simpa using hj⟩⟩

theorem Sl.cut {w : World} {size n c l h : Nat} {A : Option Addr} {xs : List Value} (hs : Sl w size A n xs) (hl : l ≤ h) (hh : h ≤ n) (hc : n ≤ c) {A' : Option Addr}
    (hA : A' = if c = l then A else A.map (·.add (l * size))) : Sl w size A' (h - l) ((xs.take (h * size)).drop (l * size)) := by
  have hlen := hs.1
  have hle : h * size ≤ n * size := Nat.mul_le_mul_right _ hh
  refine ⟨by rw [List.length_drop, List.length_take, hlen, Nat.min_eq_left hle, Nat.sub_mul], ?_⟩
  rcases Nat.eq_zero_or_pos (h - l) with h0 | h0
  · exact .inl h0
  · obtain ⟨b, o, rfl, hcell⟩ := hs.at_ (by omega)
    rw [if_neg (by omega)] at hA
    subst hA
    refine .inr ⟨b, o + l * size, by simp [addr_add], fun j v hj => ?_⟩
    rw [List.getElem?_drop] at hj
    have hlt : l * size + j < h * size := by
      rcases Nat.lt_or_ge (l * size + j) (h * size) with h1 | h1
      · exact h1
      · rw [List.getElem?_eq_none (by rw [List.length_take]; omega)] at hj; cases hj
    rw [List.getElem?_take_of_lt hlt] at hj
    rw [Nat.add_assoc]
    exact hcell _ v hj

/-- The place of an element, and the cell there (elements of one cell). -/
theorem VIdx.one {A : Option Addr} {n : Nat} {i : Int} {K : Addr → Prop} (j : Nat) (hj : (j : Int) = i) (hn : j < n) {b o : Nat} (hA : A = some ⟨b, o, none⟩) (hK : K ⟨b, o + j, none⟩) : VIdx A n i 1 K :=
  ⟨⟨b, o, j, hA, hj, hn, by simpa using hK⟩⟩

theorem VIdxA.one {ad : Addr} {n : Nat} {i : Int} {K : Addr → Prop} (j : Nat) (hj : (j : Int) = i) (hn : j < n) {b o : Nat} (hA : ad = ⟨b, o, none⟩) (hK : K ⟨b, o + j, none⟩) : VIdxA ad n i 1 K := by
  subst hA
  exact ⟨⟨j, rfl, hj, hn, by simpa using hK⟩⟩

theorem VLoads.blk {w : World} {b e n : Nat} {cs : List Value} {K : List Value → Prop} (hb : Blk w b e cs) (hl : cs.length = n) (hK : K cs) : VLoads (fun a v => w.cell? a = some v) ⟨b, 0, none⟩ n K :=
  ⟨cs, hl, fun j v hj => by rw [addr_add, hb.cell]; simpa using hj, hK⟩

theorem VStore.all {w : World} {b e : Nat} {cs vs : List Value} {K : World → Prop} (hb : Blk w b e cs) (hl : vs.length = cs.length) (hK : ∀ w', Blk w' b e vs → Keep (fun k => k = b) w w' → w'.heap.size = w.heap.size → K w') : VStore w b 0 vs false K :=
  ⟨cs, e, hb, by omega, fun w' h1 h2 h3 => hK w' (by simpa [hl] using h1) h2 h3⟩

theorem VCut.by_ {A : Option Addr} {c : Nat} {l h : Int} {size : Nat} {K : Value → Prop} (l' h' : Nat) (e1 : (l' : Int) = l) (e2 : (h' : Int) = h) (hl : l' ≤ h') (hc : h' ≤ c)
    (hK : ∀ A', A' = (if c = l' then A else A.map (·.add (l' * size))) → K (.slice A' (h' - l') (c - l'))) : VCut A c l h size K := ⟨⟨l', h', e1, e2, hl, hc, hK⟩⟩

/-! ### What the call made -/

/-- The slice is nil, or the head of a row from block 'base' on, that nobody froze; its elements are the cells xs. -/
abbrev Own (w : World) (base : Nat) (e : TypeId) (size : Nat) (A : Option Addr) (n c : Nat) (xs : List Value) : Prop := w.ownsRow base e size (.slice A n c) n xs

theorem Own.nil (w : World) (base : Nat) (e : TypeId) (size : Nat) : Own w base e size none 0 0 [] := ⟨by simp, .inl ⟨rfl, rfl⟩⟩
theorem Own.new {w : World} {g base e size n : Nat} {xs : List Value} (h : Blk w g e xs) (hb : base ≤ g) (hl : xs.length = n * size) (hm : n ≤ maxLen) : Own w base e size (some ⟨g, 0, none⟩) n n xs :=
  ⟨hl, .inr ⟨g, n, xs.toArray, rfl, hb, h, Nat.le_refl _, hm, by simp [hl], by simp [← hl]⟩⟩
theorem Own.keep {S : Nat → Prop} {w w' : World} {base e size n c : Nat} {A : Option Addr} {xs : List Value} (h : Own w base e size A n c xs) (k : Keep S w w') (hs : ∀ a, A = some a → ¬ S a.block) : Own w' base e size A n c xs := by
  refine ⟨h.1, ?_⟩
  rcases h.2 with h0 | ⟨g, cap, cur, hv, hg, hh, r⟩
  · exact .inl h0
  · have hA : A = some ⟨g, 0, none⟩ := by injection hv
    exact .inr ⟨g, cap, cur, hv, hg, k.get hh (hs _ hA), r⟩
theorem Own.keepNo {w w' : World} {base e size n c : Nat} {A : Option Addr} {xs : List Value} (h : Own w base e size A n c xs) (k : Keep No w w') : Own w' base e size A n c xs := h.keep k (fun _ _ => id)
theorem Own.base_ {w : World} {base e size n c : Nat} {A : Option Addr} {xs : List Value} (h : Own w base e size A n c xs) {a : Addr} (hA : A = some a) : base ≤ a.block ∧ a.block < w.heap.size := by
  rcases h.2 with ⟨hv, _⟩ | ⟨g, cap, cur, hv, hg, hh, r⟩
  · subst hA; cases hv
  · have : A = some ⟨g, 0, none⟩ := by injection hv
    rw [hA] at this
    injection this with this
    subst this
    exact ⟨hg, by
      rcases Nat.lt_or_ge g w.heap.size with h | h
      · exact h
      · rw [Array.getElem?_eq_none h] at hh; cases hh⟩
theorem Own.type_ne {w : World} {base e size n c : Nat} {A : Option Addr} {xs : List Value} (h : Own w base e size A n c xs) {a : Addr} (hA : A = some a) {b : Nat} {t : TypeId} {cs : List Value} (hb : Blk w b t cs) (hne : e ≠ t) : a.block ≠ b := by
  rcases h.2 with ⟨hv, _⟩ | ⟨g, cap, cur, hv, hg, hh, r⟩
  · subst hA; cases hv
  · have : A = some ⟨g, 0, none⟩ := by injection hv
    rw [hA] at this
    injection this with this
    subst this
    rintro rfl
    unfold Blk at hb
    rw [hh] at hb
    injection hb with hb
    injection hb with _ ht
    exact hne ht
theorem Own.mono {w : World} {base base' e size n c : Nat} {A : Option Addr} {xs : List Value} (h : Own w base e size A n c xs) (hb : base' ≤ base) : Own w base' e size A n c xs := by
  refine ⟨h.1, ?_⟩
  rcases h.2 with h0 | ⟨g, cap, cur, hv, hg, r⟩
  · exact .inl h0
  · exact .inr ⟨g, cap, cur, hv, by omega, r⟩

/-- append onto what the call made. -/
theorem VApp.own {P : Program} {tt : TT} (htt : TOk P tt) {w : World} {t : TypeId} {ty : TypeId} {e : TypeId} {K : Value → World → Prop} {it ei : TI} (ht : tfind tt t = some it) (hu : it.und = .slice e) (he : tfind tt e = some ei)
    {size : Nat} (hsize : ei.size = size) (hz : ei.zero.cells.size = size) (hpos : 0 < size) {base : Nat} {A : Option Addr} {n c : Nat} {xs : List Value} (hown : Own w base e size A n c xs)
    {B : Option Addr} {m d : Nat} {ys : List Value} (hsrc : Sl w size B m ys) (h1 : ∀ u ∈ ys, u.oneCell' = true)
    (hbytes : (n + m) * ei.bytes ≤ 140737488355328) (hlen : n + m ≤ 140737488355328) (hbase : base ≤ w.heap.size)
    (hK : ∀ A' c' w', Own w' base e size A' (n + m) c' (xs ++ ys) → Keep (fun k => ∃ a, A = some a ∧ a.block = k) w w' → (∀ a, A' = some a → (∃ a0, A = some a0 ∧ a.block = a0.block) ∨ a.block = w.heap.size) → K (.slice A' (n + m) c') w') :
    VApp P w #[t, t] ty (.slice A n c) (.slice B m d) K := by
  obtain ⟨info, hi, hs1, hs2, hs3⟩ := htt.info he
  have hund : P.underlying t = some (.slice e) := by rw [(htt.ok t it ht).1, hu]
  have key : ∀ (v : Value) (w' : World), w'.ownsRow base e size v (n + m) (xs ++ ys) → w.grownBy w' (Value.ownBlock (.slice A n c)) →
      (v.ownBlock = Value.ownBlock (.slice A n c) ∨ v.ownBlock = some w.heap.size) → K v w' := by
    intro v w' ho hg hat
    have hform : ∃ A' c', v = .slice A' (n + m) c' := by
      rcases ho.2 with ⟨hv, h0⟩ | ⟨g, cap, cur, hv, _⟩
      · exact ⟨none, 0, by rw [hv, h0]⟩
      · exact ⟨_, _, hv⟩
    obtain ⟨A', c', rfl⟩ := hform
    refine hK A' c' w' ho ?_ ?_
    · refine (Keep.ofGrown hg).mono ?_
      intro k _ hk
      cases A with
      | none => simp [Value.ownBlock] at hk
      | some a0 => exact ⟨a0, rfl, by simpa [Value.ownBlock] using hk⟩
    · intro a ha
      subst ha
      rcases hat with hat | hat
      · cases A with
        | none => simp [Value.ownBlock] at hat
        | some a0 => exact .inl ⟨a0, rfl, by simpa [Value.ownBlock] using hat⟩
      · exact .inr (by simpa [Value.ownBlock] using hat)
  have hmax : n + m ≤ maxLen := by unfold maxLen; omega
  rcases Nat.eq_zero_or_pos m with h0 | h0
  · subst h0
    have hy : ys = [] := List.eq_nil_of_length_eq_zero (by simpa using hsrc.1)
    subst hy
    cases B with
    | none =>
      refine ⟨.slice A n c, w, ?_, key _ _ (by simpa using hown) (World.grownBy.refl w _) (.inl rfl)⟩
      rcases hown.2 with ⟨hv, rfl⟩ | ⟨g, cap, cur, hv, _, _, hnc, _⟩
      · rw [hv]
        simp [Builtin.append_, run_underlying hund, Go.sizeOf, Go.typeInfo, hi, Builtin.lenOf, Builtin.firstCells]
      · rw [hv]
        simp [Builtin.append_, run_underlying hund, Go.sizeOf, Go.typeInfo, hi, Builtin.lenOf, Builtin.firstCells, hnc, storeCells]
    | some b =>
      obtain ⟨v', w', hrun, h2, h3, _, h5⟩ := run_append_own_at (P := P) w base t ty e info ei.zero size ei.bytes hund hi hs3 (by rw [hs1, hsize]) hs2 hz hpos (.slice A n c) n xs hown b 0 d [] (by simp) (by simp) (by simp) hmax hbytes hbase
      exact ⟨v', w', hrun, key _ _ h2 h3 h5⟩
  · obtain ⟨b, o, rfl, hcell⟩ := hsrc.at_ h0
    obtain ⟨v', w', hrun, h2, h3, _, h5⟩ := run_append_own_at (P := P) w base t ty e info ei.zero size ei.bytes hund hi hs3 (by rw [hs1, hsize]) hs2 hz hpos (.slice A n c) n xs hown ⟨b, o, none⟩ m d ys hsrc.1
      (fun j u hj => by rw [addr_add]; exact hcell j u hj) h1 hmax hbytes hbase
    exact ⟨v', w', hrun, key _ _ h2 h3 h5⟩

/-- The block of a slice. -/
abbrev ownS (A : Option Addr) : Nat → Prop := fun k => ∃ a, A = some a ∧ a.block = k

theorem Keep.own {w0 w w' : World} {e size n c : Nat} {A : Option Addr} {xs : List Value} (h0 : Keep No w0 w) (h : Own w w0.heap.size e size A n c xs) (k : Keep (ownS A) w w') : Keep No w0 w' :=
  ⟨k.os.trans h0.os, k.tape.trans h0.tape, k.output.trans h0.output, Nat.le_trans h0.size k.size, fun i hi _ => by
    rw [k.block i (Nat.lt_of_lt_of_le hi h0.size), h0.block i hi id]
    rintro ⟨a, hA, rfl⟩
    have := (h.base_ hA).1
    omega⟩

theorem Keep.transNo {a b c : World} (h : Keep No a b) (k : Keep No b c) : Keep No a c := h.trans k
theorem Keep.toNo {S : Nat → Prop} {w0 w w' : World} (h0 : Keep No w0 w) (k : Keep S w w') (hs : ∀ i, S i → w0.heap.size ≤ i) : Keep No w0 w' :=
  ⟨k.os.trans h0.os, k.tape.trans h0.tape, k.output.trans h0.output, Nat.le_trans h0.size k.size, fun i hi _ => by
    rw [k.block i (Nat.lt_of_lt_of_le hi h0.size) (fun x => by have := hs i x; omega), h0.block i hi id]⟩

theorem one8 (l : List UInt8) : ∀ u ∈ l.map vb, u.oneCell' = true := by
  intro u hu
  obtain ⟨x, _, rfl⟩ := List.mem_map.1 hu
  rfl

theorem Keep.ofHeap {w x : World} (h1 : x.heap = w.heap) (h2 : x.os = w.os) (h3 : x.tape = w.tape) (h4 : x.output = w.output) : Keep No w x :=
  ⟨h2, h3, h4, by rw [h1]; exact Nat.le_refl _, fun k _ _ => by rw [h1]⟩

/-- A load inside a region whose order is drawn. -/
theorem VLoad.keep {w : World} {a : Addr} {K : Value → Prop} {v : Value} (h1 : w.cell? a = some v) (h2 : K v) : VLoad (fun a v => ∀ x, Keep No w x → x.cell? a = some v) a K := ⟨v, fun x hx => hx.cell h1 id, h2⟩

/-! ### Rows of byte slices -/

/-- Block k is a row of elements of type t. -/
def Ty (w : World) (k : Nat) (t : TypeId) : Prop := ∃ cs fz, w.heap[k]? = some (.cells cs t fz)
theorem Ty.keep {S : Nat → Prop} {w w' : World} {k : Nat} {t : TypeId} (h : Ty w k t) (hk : Keep S w w') (hs : ¬ S k) : Ty w' k t := by
  obtain ⟨cs, fz, h⟩ := h
  exact ⟨cs, fz, hk.get h hs⟩
theorem Ty.lt {w : World} {k : Nat} {t : TypeId} (h : Ty w k t) : k < w.heap.size := by
  obtain ⟨cs, fz, h⟩ := h
  rcases Nat.lt_or_ge k w.heap.size with hl | hl
  · exact hl
  · rw [Array.getElem?_eq_none hl] at h; cases h
theorem Ty.ne {w : World} {k k' : Nat} {t t' : TypeId} (h : Ty w k t) (h' : Ty w k' t') (hne : t ≠ t') : k ≠ k' := by
  rintro rfl
  obtain ⟨cs, fz, h⟩ := h
  obtain ⟨cs', fz', h'⟩ := h'
  rw [h] at h'
  injection h' with h'
  injection h' with _ ht
  exact hne ht
theorem Blk.ty {w : World} {b : Nat} {t : TypeId} {cs : List Value} (h : Blk w b t cs) : Ty w b t := ⟨_, _, h⟩
theorem Own.ty {w : World} {base e size n c : Nat} {A : Option Addr} {xs : List Value} (h : Own w base e size A n c xs) {a : Addr} (hA : A = some a) : Ty w a.block e := by
  rcases h.2 with ⟨hv, _⟩ | ⟨g, cap, cur, hv, hg, hh, r⟩
  · subst hA; cases hv
  · have : A = some ⟨g, 0, none⟩ := by injection hv
    rw [hA] at this
    injection this with this
    subst this
    exact ⟨_, _, hh⟩

/-- v is a slice that reads as the bytes f, in a block of X. -/
def FrAt (w : World) (X : Nat → Prop) (v : Value) (f : List UInt8) : Prop :=
  ∃ A c, v = .slice A f.length c ∧ f.length ≤ c ∧ Sl w 1 A f.length (f.map vb) ∧ ∀ a, A = some a → 0 < f.length → X a.block

def Els (w : World) (X : Nat → Prop) (vals : List Value) (fs : List (List UInt8)) : Prop :=
  vals.length = fs.length ∧ ∀ (i : Nat) (f : List UInt8), fs[i]? = some f → ∃ v, vals[i]? = some v ∧ FrAt w X v f

theorem Els.nil (w : World) (X : Nat → Prop) : Els w X [] [] := ⟨rfl, fun i f h => by simp at h⟩
theorem FrAt.keep {S X : Nat → Prop} {w w' : World} {v : Value} {f : List UInt8} (h : FrAt w X v f) (k : Keep S w w') (hs : ∀ i, X i → ¬ S i) : FrAt w' X v f := by
  obtain ⟨A, c, h1, h2, h3, h4⟩ := h
  exact ⟨A, c, h1, h2, h3.keepP k (fun a ha h0 => hs _ (h4 a ha h0)), h4⟩
theorem Els.keep {S X : Nat → Prop} {w w' : World} {vals : List Value} {fs : List (List UInt8)} (h : Els w X vals fs) (k : Keep S w w') (hs : ∀ i, X i → ¬ S i) : Els w' X vals fs :=
  ⟨h.1, fun i f hf => by
    obtain ⟨v, h1, h2⟩ := h.2 i f hf
    exact ⟨v, h1, h2.keep k hs⟩⟩
theorem Els.mono {X Y : Nat → Prop} {w : World} {vals : List Value} {fs : List (List UInt8)} (h : Els w X vals fs) (hs : ∀ i, X i → Y i) : Els w Y vals fs :=
  ⟨h.1, fun i f hf => by
    obtain ⟨v, h1, A, c, h2, h3, h4, h5⟩ := h.2 i f hf
    exact ⟨v, h1, A, c, h2, h3, h4, fun a ha h0 => hs _ (h5 a ha h0)⟩⟩
theorem Els.snoc {X : Nat → Prop} {w : World} {vals : List Value} {fs : List (List UInt8)} (h : Els w X vals fs) {v : Value} {f : List UInt8} (hv : FrAt w X v f) : Els w X (vals ++ [v]) (fs ++ [f]) := by
  refine ⟨by simp [h.1], fun i g hg => ?_⟩
  by_cases hi : i < fs.length
  · rw [List.getElem?_append_left hi] at hg
    obtain ⟨u, h1, h2⟩ := h.2 i g hg
    exact ⟨u, by rw [List.getElem?_append_left (by rw [h.1]; exact hi)]; exact h1, h2⟩
  · rw [List.getElem?_append_right (by omega)] at hg
    rw [List.getElem?_append_right (by rw [h.1]; omega), h.1]
    have h0 : i - fs.length = 0 := by
      rcases Nat.eq_zero_or_pos (i - fs.length) with h | h
      · exact h
      · rw [List.getElem?_eq_none (by simp; omega)] at hg; cases hg
    rw [h0] at hg ⊢
    simp at hg
    subst hg
    exact ⟨v, rfl, hv⟩
theorem Els.append {X : Nat → Prop} {w : World} {vals us : List Value} {fs gs : List (List UInt8)} (h : Els w X vals fs) (h' : Els w X us gs) : Els w X (vals ++ us) (fs ++ gs) := by
  refine ⟨by simp [h.1, h'.1], fun i g hg => ?_⟩
  by_cases hi : i < fs.length
  · rw [List.getElem?_append_left hi] at hg
    obtain ⟨u, h1, h2⟩ := h.2 i g hg
    exact ⟨u, by rw [List.getElem?_append_left (by rw [h.1]; exact hi)]; exact h1, h2⟩
  · rw [List.getElem?_append_right (by omega)] at hg
    rw [List.getElem?_append_right (by rw [h.1]; omega), h.1]
    exact h'.2 _ g hg
/-- Its values are each of one cell. -/
theorem Els.one {X : Nat → Prop} {w : World} {vals : List Value} {fs : List (List UInt8)} (h : Els w X vals fs) : ∀ u ∈ vals, u.oneCell' = true := by
  intro u hu
  obtain ⟨i, hi⟩ := List.getElem?_of_mem hu
  have hlt : i < fs.length := by
    rw [← h.1]
    rcases Nat.lt_or_ge i vals.length with h | h
    · exact h
    · rw [List.getElem?_eq_none h] at hi; cases hi
  obtain ⟨v, h1, A, c, h2, _⟩ := h.2 i _ (List.getElem?_eq_getElem hlt)
  rw [hi] at h1
  cases h1
  subst h2
  rfl

end Go.Proofs.YtgmopcbfgcagaaaDoor.V
