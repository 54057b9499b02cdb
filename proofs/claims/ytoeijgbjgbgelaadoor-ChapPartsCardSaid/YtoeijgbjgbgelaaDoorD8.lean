/-
  DES, the program's: Encrypt.
-/
import Derived.Test.YtoeijgbjgbgelaaDoorD7
namespace Go.Proofs.YtoeijgbjgbgelaaDoor
open Go V

theorem bitsB_bit (c : UInt8) : ∀ x ∈ bitsB c, x.toNat ≤ 1 := by
  intro x hx
  obtain ⟨j, _, rfl⟩ := List.mem_map.1 hx
  have : (bit8 c j).toNat = c.toNat / 2 ^ (7 - j) % 2 % 256 := by simp [bit8]
  omega
theorem bitsP_bit (l : List UInt8) : ∀ x ∈ bitsP l, x.toNat ≤ 1 := by
  intro x hx
  obtain ⟨c, _, h⟩ := List.mem_flatMap.1 hx
  exact bitsB_bit c x h
theorem putP_bit {l : List UInt8} (h : ∀ x ∈ l, x.toNat ≤ 1) (o : Nat → Nat) (n : Nat) : ∀ x ∈ putP l o n, x.toNat ≤ 1 := by
  intro x hx
  obtain ⟨i, _, rfl⟩ := List.mem_map.1 hx
  exact bit_at h _
theorem xor_bit : ∀ x y : UInt8, x.toNat ≤ 1 → y.toNat ≤ 1 → (x ^^^ y).toNat ≤ 1 := by
  intro x y hx hy
  have h1 : x = 0 ∨ x = 1 := by
    have : x.toNat = 0 ∨ x.toNat = 1 := by omega
    rcases this with h | h
    · exact .inl (UInt8.toNat_inj.1 h)
    · exact .inr (UInt8.toNat_inj.1 h)
  have h2 : y = 0 ∨ y = 1 := by
    have : y.toNat = 0 ∨ y.toNat = 1 := by omega
    rcases this with h | h
    · exact .inl (UInt8.toNat_inj.1 h)
    · exact .inr (UInt8.toNat_inj.1 h)
  rcases h1 with rfl | rfl <;> rcases h2 with rfl | rfl <;> decide
theorem xorP_bit {a b : List UInt8} (ha : ∀ x ∈ a, x.toNat ≤ 1) (hb : ∀ x ∈ b, x.toNat ≤ 1) (n : Nat) : ∀ x ∈ xorP a b n, x.toNat ≤ 1 := by
  intro x hx
  obtain ⟨i, _, rfl⟩ := List.mem_map.1 hx
  exact xor_bit _ _ (bit_at ha i) (bit_at hb i)
theorem nib_bit (v : UInt8) : ∀ x ∈ nibP v, x.toNat ≤ 1 := by
  intro x hx
  obtain ⟨j, _, rfl⟩ := List.mem_map.1 hx
  have : (nib8 v j).toNat = v.toNat / 2 ^ (3 - j) % 2 % 256 := by simp [nib8]
  omega
theorem boxK_bit (l : List UInt8) (k : Nat) : ∀ x ∈ boxK l k, x.toNat ≤ 1 := by
  intro x hx
  obtain ⟨j, _, h⟩ := List.mem_flatMap.1 hx
  exact nib_bit _ x h
theorem turnP_bit {l : List UInt8} (h : ∀ x ∈ l, x.toNat ≤ 1) (k : Nat) : ∀ x ∈ turnP l k, x.toNat ≤ 1 := by
  intro x hx
  rcases List.mem_append.1 hx with h1 | h1
  · exact h x (List.mem_of_mem_drop h1)
  · exact h x (List.mem_of_mem_take h1)
theorem cdP_bit (l : List UInt8) (r : Nat) : (∀ x ∈ (cdP l r).1, x.toNat ≤ 1) ∧ ∀ x ∈ (cdP l r).2, x.toNat ≤ 1 := by
  induction r with
  | zero => exact ⟨putP_bit (bitsP_bit l) _ _, putP_bit (bitsP_bit l) _ _⟩
  | succ r ih => exact ⟨turnP_bit ih.1 _, turnP_bit ih.2 _⟩
theorem keyP_bit (l : List UInt8) (r : Nat) : ∀ x ∈ keyP l r, x.toNat ≤ 1 :=
  putP_bit (fun x hx => (List.mem_append.1 hx).elim ((cdP_bit l r).1 x) ((cdP_bit l r).2 x)) _ _
theorem rounds_bit (key x : List UInt8) (r : Nat) : (∀ y ∈ (roundsP key x r).1, y.toNat ≤ 1) ∧ ∀ y ∈ (roundsP key x r).2, y.toNat ≤ 1 := by
  induction r with
  | zero =>
    have h := putP_bit (bitsP_bit x) firstO 64
    exact ⟨fun y hy => h y (List.mem_of_mem_take hy), fun y hy => h y (List.mem_of_mem_drop hy)⟩
  | succ r ih => exact ⟨ih.2, xorP_bit ih.1 (putP_bit (boxK_bit _ _) _ _) _⟩
theorem xorP_len (a b : List UInt8) (n : Nat) : (xorP a b n).length = n := by simp [xorP]
theorem rounds_len (key x : List UInt8) (r : Nat) : (roundsP key x r).1.length = 32 ∧ (roundsP key x r).2.length = 32 := by
  induction r with
  | zero =>
    have h := putP_len (bitsP x) firstO 64
    exact ⟨by show (List.take _ _).length = _; rw [List.length_take, h]; rfl, by show (List.drop _ _).length = _; rw [List.length_drop, h]⟩
  | succ r ih => exact ⟨ih.2, xorP_len _ _ _⟩
end Go.Proofs.YtoeijgbjgbgelaaDoor
