/-
  Options there and back: what the laws say of them, in plain Lean.
-/
import Derived.Test.YtififgodhnelgaaP8
namespace Go.Proofs.Ytififgodhnelgaa
open Go V

theorem u8n (x : Nat) (h : x ≤ 255) : (UInt8.ofNat x).toNat = x := by simp; omega

theorem enc_get (o : Opt) (rest : List UInt8) (h : o.good) : ((o.enc ++ rest).getD 0 0).toNat = o.t.toNat ∧ ((o.enc ++ rest).getD 1 0).toNat = o.data.length + 2 := by
  unfold Opt.good at h
  constructor
  · show (UInt8.ofNat o.t.toNat).toNat = _
    exact u8n _ (by omega)
  · show (UInt8.ofNat (o.data.length + 2)).toNat = _
    exact u8n _ (by omega)
theorem enc_length (o : Opt) : o.enc.length = o.data.length + 2 := by simp [Opt.enc]

/-- Options that may be are split as they are. -/
theorem split_enc : ∀ (os acc : List Opt) (rest : List UInt8), (∀ o ∈ os, o.good) → acc.length + os.length ≤ 32 →
    splitF (encOs os ++ rest).length (encOs os ++ rest) acc = splitF rest.length rest (acc ++ os)
  | [], acc, rest, _, _ => by simp [encOs]
  | o :: os, acc, rest, hg, hl => by
    have ho := hg o (by simp)
    have e : encOs (o :: os) ++ rest = o.enc ++ (encOs os ++ rest) := by simp [encOs]
    obtain ⟨g0, g1⟩ := enc_get o (encOs os ++ rest) ho
    have hen := enc_length o
    simp only [List.length_cons] at hl
    rw [e, splitF_step (by rw [List.length_append]; omega) (by omega) (by unfold splitBad; rw [g1, List.length_append]; omega), g1]
    have e1 : (o.enc ++ (encOs os ++ rest)).drop (o.data.length + 2) = encOs os ++ rest := by
      rw [← hen, List.drop_left]
    have e2 : firstO (o.enc ++ (encOs os ++ rest)) = o := by
      unfold firstO
      rw [g0, g1]
      refine Opt.ext_ ?_ ?_
      · unfold Opt.good at ho
        show ((o.t.toNat : Nat) : Int) = o.t
        omega
      · show ((o.enc ++ (encOs os ++ rest)).take (o.data.length + 2)).drop 2 = o.data
        rw [← hen, List.take_left]
        rfl
    rw [e1, e2, split_enc os (acc ++ [o]) rest (fun x hx => hg x (by simp [hx])) (by rw [List.length_append, List.length_singleton]; omega)]
    simp
theorem splitP_enc (os : List Opt) (hg : ∀ o ∈ os, o.good) (hl : os.length ≤ 32) : splitP (encOs os) = (os, 0) := by
  have := split_enc os [] [] hg (by simpa using hl)
  simpa [splitP, splitF] using this
theorem encOs_append (a b : List Opt) : encOs (a ++ b) = encOs a ++ encOs b := by simp [encOs]
theorem encOs_inj {a b : List Opt} (ha : ∀ o ∈ a, o.good) (hb : ∀ o ∈ b, o.good) (hla : a.length ≤ 32) (hlb : b.length ≤ 32) (h : encOs a = encOs b) : a = b := by
  have h1 := splitP_enc a ha hla
  have h2 := splitP_enc b hb hlb
  rw [h, h2] at h1
  injection h1 with h1
  exact h1.symm

/-- What was split, joined again, is those bytes. -/
theorem split_back : ∀ (f : Nat) (l : List UInt8) (acc os : List Opt), l.length ≤ f → acc.length ≤ 32 → (∀ o ∈ acc, o.good) → splitF f l acc = (os, 0) → os.length ≤ 32 ∧ (∀ o ∈ os, o.good) ∧ encOs os = encOs acc ++ l
  | 0, l, acc, os, hl, h32, hg, h => by
    unfold splitF at h
    injection h with h1 _
    subst h1
    obtain rfl : l = [] := List.eq_nil_of_length_eq_zero (by omega)
    exact ⟨h32, hg, by simp⟩
  | f + 1, l, acc, os, hl, h32, hg, h => by
    unfold splitF at h
    split at h
    · rename_i h0
      injection h with h1 _
      subst h1
      obtain rfl : l = [] := List.eq_nil_of_length_eq_zero h0
      exact ⟨h32, hg, by simp⟩
    · rename_i h0
      split at h
      · injection h with _ h2; cases h2
      · rename_i h1
        split at h
        · injection h with _ h2; cases h2
        · rename_i h2
          unfold splitBad at h2
          have b0 := (l.getD 0 0).toNat_lt
          have b1 := (l.getD 1 0).toNat_lt
          have hdl : (firstO l).data.length = (l.getD 1 0).toNat - 2 := by show ((l.take _).drop 2).length = _; rw [List.length_drop, List.length_take]; omega
          obtain ⟨r1, r2, r3⟩ := split_back f _ _ os (by rw [List.length_drop]; omega) (by rw [List.length_append, List.length_singleton]; omega) (fun o ho => by
            rcases List.mem_append.1 ho with ho | ho
            · exact hg o ho
            · obtain rfl : o = firstO l := by simpa using ho
              unfold Opt.good
              rw [hdl]
              show (0 : Int) ≤ ((l.getD 0 0).toNat : Nat) ∧ ((l.getD 0 0).toNat : Int) ≤ 255 ∧ _
              omega) h
          refine ⟨r1, r2, ?_⟩
          rw [r3, encOs_append, List.append_assoc]
          congr 1
          have e : encOs [firstO l] = l.take (l.getD 1 0).toNat := by
            have : encOs [firstO l] = (firstO l).enc := by simp [encOs]
            rw [this]
            unfold Opt.enc
            rw [hdl, show (l.getD 1 0).toNat - 2 + 2 = (l.getD 1 0).toNat from by omega]
            have e0 : UInt8.ofNat (firstO l).t.toNat = l.getD 0 0 := by
              show UInt8.ofNat (Int.toNat ((l.getD 0 0).toNat : Nat)) = _
              simp
            have e1 : UInt8.ofNat (l.getD 1 0).toNat = l.getD 1 0 := by simp
            rw [e0, e1]
            obtain ⟨x, y, r, rfl⟩ : ∃ x y r, l = x :: y :: r := by
              match l, h0, h2 with
              | [], h0, _ => exact absurd rfl h0
              | [x], _, h2 => exact absurd (by simp) (fun h => h2 (.inl h))
              | x :: y :: r, _, _ => exact ⟨x, y, r, rfl⟩
            show [x, y] ++ ((x :: y :: r).take y.toNat).drop 2 = (x :: y :: r).take y.toNat
            have hy : ¬ y.toNat < 2 := fun h => h2 (.inr (.inl h))
            obtain ⟨k, hk⟩ : ∃ k, y.toNat = k + 2 := ⟨y.toNat - 2, by omega⟩
            rw [hk]
            rfl
          rw [e, List.take_append_drop]

theorem decodeP_cons (a b c d : UInt8) (r : List UInt8) : decodeP (a :: b :: c :: d :: r) = if two c d < 4 then (Pk.zero, 4) else if (a :: b :: c :: d :: r).length < two c d then (Pk.zero, 2) else if 1500 < two c d then (Pk.zero, 3) else (⟨(a.toNat : Nat), (b.toNat : Nat), (List.take (two c d) (a :: b :: c :: d :: r)).drop 4⟩, 0) := by
  unfold decodeP
  rw [if_neg (by simp)]
  rfl
/-- A packet, whatever stands behind it, is read as it is. -/
theorem decode_encode (p : Pk) (behind : List UInt8) (h : (encodeP p).2 = 0) : decodeP ((encodeP p).1 ++ behind) = (p, 0) := by
  unfold encodeP at h ⊢
  split at h
  · cases h
  · rename_i hb
    split at h
    · cases h
    · rename_i hl
      rw [if_neg hb, if_neg hl]
      unfold Pk.bad at hb
      have e : p.head ++ p.data ++ behind = UInt8.ofNat p.code.toNat :: UInt8.ofNat p.id.toNat :: UInt8.ofNat ((p.data.length + 4) / 2 ^ 8) :: UInt8.ofNat (p.data.length + 4) :: (p.data ++ behind) := by simp [Pk.head]
      have ht : two (UInt8.ofNat ((p.data.length + 4) / 2 ^ 8)) (UInt8.ofNat (p.data.length + 4)) = p.data.length + 4 := by
        unfold two
        have : (UInt8.ofNat ((p.data.length + 4) / 2 ^ 8)).toNat = (p.data.length + 4) / 2 ^ 8 % 256 := by simp
        have h2 : (UInt8.ofNat (p.data.length + 4)).toNat = (p.data.length + 4) % 256 := by simp
        rw [this, h2]
        omega
      show decodeP (p.head ++ p.data ++ behind) = _
      rw [e]
      rw [decodeP_cons, ht, u8n _ (by omega), u8n _ (by omega), if_neg (by omega), if_neg (by simp only [List.length_cons, List.length_append]; omega), if_neg (by omega)]
      refine congrArg (fun q => (q, (0 : Int))) (Pk.ext_ ?_ ?_ ?_)
      · show ((p.code.toNat : Nat) : Int) = p.code; omega
      · show ((p.id.toNat : Nat) : Int) = p.id; omega
      · show (List.take (p.data.length + 4) _).drop 4 = p.data
        simp [List.take_succ_cons]
/-- How long what is split may be. -/
theorem splitF_len : ∀ (f : Nat) (l : List UInt8) (acc : List Opt) (M : Nat), l.length ≤ M → acc.length ≤ 32 → (∀ o ∈ acc, o.data.length ≤ M) → (splitF f l acc).1.length ≤ 32 ∧ ∀ o ∈ (splitF f l acc).1, o.data.length ≤ M
  | 0, l, acc, M, hl, h32, hg => ⟨h32, hg⟩
  | f + 1, l, acc, M, hl, h32, hg => by
    unfold splitF
    split
    · exact ⟨h32, hg⟩
    · split
      · exact ⟨by simp, by simp⟩
      · split
        · exact ⟨by simp, by simp⟩
        · exact splitF_len f _ _ M (by rw [List.length_drop]; omega) (by rw [List.length_append, List.length_singleton]; omega) (fun o ho => by
            rcases List.mem_append.1 ho with ho | ho
            · exact hg o ho
            · obtain rfl : o = firstO l := by simpa using ho
              show ((l.take _).drop 2).length ≤ M
              rw [List.length_drop, List.length_take]; omega)
theorem splitP_len (l : List UInt8) : (splitP l).1.length ≤ 32 ∧ ∀ o ∈ (splitP l).1, o.data.length ≤ l.length := splitF_len _ _ _ _ (Nat.le_refl _) (by simp) (by simp)
end Go.Proofs.Ytififgodhnelgaa
