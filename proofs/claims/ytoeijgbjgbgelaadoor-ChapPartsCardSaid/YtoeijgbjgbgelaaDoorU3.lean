/-
  The reference's letter, Units, Hash; law 9: awake.
-/
import Derived.Test.YtoeijgbjgbgelaaDoorU2
import Derived.Test.YtoeijgbjgbgelaaDoorM4
namespace Go.Proofs.YtoeijgbjgbgelaaDoor
open Go V

/-- The first rune and its size, 0 and 0 if there is none. -/
def refP (l : List UInt8) : Nat × Nat := if decBad l then (0, 0) else decP l
def cls (c : Nat) : Nat := if 194 ≤ c ∧ c ≤ 223 then 2 else if 224 ≤ c ∧ c ≤ 239 then 3 else if 240 ≤ c ∧ c ≤ 244 then 4 else 0
def contOf (n b1 b2 b3 : Nat) : Prop := b1 / 64 = 2 ∧ (3 ≤ n → b2 / 64 = 2) ∧ (4 ≤ n → b3 / 64 = 2)
instance (n b1 b2 b3 : Nat) : Decidable (contOf n b1 b2 b3) := by unfold contOf; infer_instance
def xOf (n c b1 b2 b3 : Nat) : Nat := if n = 2 then c % 32 * 64 + b1 % 64 else if n = 3 then c % 16 * 4096 + b1 % 64 * 64 + b2 % 64 else c % 8 * 262144 + b1 % 64 * 4096 + b2 % 64 * 64 + b3 % 64
def leastOf (n : Nat) : Nat := if n = 2 then 128 else if n = 3 then 2048 else 65536
def refR (len c b1 b2 b3 : Nat) : Nat × Nat :=
  if cls c = 0 ∨ len < cls c then (0, 0) else if ¬ contOf (cls c) b1 b2 b3 then (0, 0)
  else if xOf (cls c) c b1 b2 b3 < leastOf (cls c) ∨ 1114111 < xOf (cls c) c b1 b2 b3 ∨ (55296 ≤ xOf (cls c) c b1 b2 b3 ∧ xOf (cls c) c b1 b2 b3 ≤ 57343) then (0, 0) else (xOf (cls c) c b1 b2 b3, cls c)
theorem decR_bad {n c b1 b2 b3 sz lo hi : Nat} (hs : decS c = (sz, lo, hi)) (h : sz = 0 ∨ n < sz ∨ b1 < lo ∨ hi < b1 ∨ (sz ≠ 2 ∧ (b2 < 128 ∨ 191 < b2)) ∨ (sz ≠ 2 ∧ sz ≠ 3 ∧ (b3 < 128 ∨ 191 < b3))) : decR n c b1 b2 b3 = (65533, 1) := by
  unfold decR
  rw [hs]
  dsimp only
  repeat' split
  all_goals first | rfl | (exfalso; omega)
theorem decR_val {n c b1 b2 b3 sz lo hi : Nat} (hs : decS c = (sz, lo, hi)) (h : ¬ (sz = 0 ∨ n < sz ∨ b1 < lo ∨ hi < b1 ∨ (sz ≠ 2 ∧ (b2 < 128 ∨ 191 < b2)) ∨ (sz ≠ 2 ∧ sz ≠ 3 ∧ (b3 < 128 ∨ 191 < b3)))) (h4 : sz = 2 ∨ sz = 3 ∨ sz = 4) : decR n c b1 b2 b3 = (xOf sz c b1 b2 b3, sz) := by
  unfold decR xOf
  rw [hs]
  dsimp only
  repeat' split
  all_goals first | (exfalso; omega) | (refine Prod.ext ?_ ?_ <;> dsimp only <;> omega)
theorem refR_zero {len c b1 b2 b3 n x : Nat} (hn : cls c = n) (hx : xOf n c b1 b2 b3 = x) (h : n = 0 ∨ len < n ∨ ¬ contOf n b1 b2 b3 ∨ x < leastOf n ∨ 1114111 < x ∨ (55296 ≤ x ∧ x ≤ 57343)) : refR len c b1 b2 b3 = (0, 0) := by
  unfold refR
  rw [hn, hx]
  split
  · rfl
  split
  · rfl
  rw [if_pos (by rename_i h1 h2; rcases h with h | h | h | h; (· omega); (· omega); (· exact absurd h h2); exact h)]
theorem refR_val {len c b1 b2 b3 n x : Nat} (hn : cls c = n) (hx : xOf n c b1 b2 b3 = x) (h : ¬ (n = 0 ∨ len < n ∨ ¬ contOf n b1 b2 b3 ∨ x < leastOf n ∨ 1114111 < x ∨ (55296 ≤ x ∧ x ≤ 57343))) : refR len c b1 b2 b3 = (x, n) := by
  unfold refR
  rw [hn, hx, if_neg (fun g => h (by omega)), if_neg (fun g => h (.inr (.inr (.inl g)))), if_neg (fun g => h (.inr (.inr (.inr g))))]
set_option maxHeartbeats 2000000 in
theorem refR_ok (len c b1 b2 b3 : Nat) (h128 : 128 ≤ c) (c8 : c < 256) (h1 : b1 < 256) (h2 : b2 < 256) (h3 : b3 < 256) :
    (if (decR len c b1 b2 b3).1 = 65533 ∧ (decR len c b1 b2 b3).2 < 2 then (0, 0) else decR len c b1 b2 b3) = refR len c b1 b2 b3 := by
  have cl : (c < 194 ∨ 244 < c) ∨ (194 ≤ c ∧ c ≤ 223) ∨ c = 224 ∨ c = 237 ∨ (225 ≤ c ∧ c ≤ 239 ∧ c ≠ 237) ∨ c = 240 ∨ (241 ≤ c ∧ c ≤ 243) ∨ c = 244 := by omega
  rcases cl with hk | hk | hk | hk | hk | hk | hk | hk
  · have hs : decS c = (0, 0, 0) := by
      unfold decS
      first | (simp [hk]; done) | (repeat' split) <;> first | rfl | (exfalso; omega)
    have hn : cls c = 0 := by
      unfold cls
      first | (simp [hk]; done) | (repeat' split) <;> first | rfl | (exfalso; omega)
    rw [decR_bad hs (.inl rfl), refR_zero hn rfl (.inl rfl)]
    rfl
  · have hs : decS c = (2, 128, 191) := by
      unfold decS
      first | (simp [hk]; done) | (repeat' split) <;> first | rfl | (exfalso; omega)
    have hn : cls c = 2 := by
      unfold cls
      first | (simp [hk]; done) | (repeat' split) <;> first | rfl | (exfalso; omega)
    have hx : xOf 2 c b1 b2 b3 = c % 32 * 64 + b1 % 64 := rfl
    have hl : leastOf 2 = 128 := rfl
    by_cases H : 2 = 0 ∨ len < 2 ∨ b1 < 128 ∨ 191 < b1 ∨ (2 ≠ 2 ∧ (b2 < 128 ∨ 191 < b2)) ∨ (2 ≠ 2 ∧ 2 ≠ 3 ∧ (b3 < 128 ∨ 191 < b3))
    · rw [decR_bad hs H, refR_zero hn hx (by rw [hl]; unfold contOf; omega)]
      rfl
    · rw [decR_val hs H (by omega), refR_val hn hx (by rw [hl]; unfold contOf; omega), hx, if_neg (by dsimp only; omega)]
  · have hs : decS c = (3, 160, 191) := by
      unfold decS
      first | (simp [hk]; done) | (repeat' split) <;> first | rfl | (exfalso; omega)
    have hn : cls c = 3 := by
      unfold cls
      first | (simp [hk]; done) | (repeat' split) <;> first | rfl | (exfalso; omega)
    have hx : xOf 3 c b1 b2 b3 = c % 16 * 4096 + b1 % 64 * 64 + b2 % 64 := rfl
    have hl : leastOf 3 = 2048 := rfl
    by_cases H : 3 = 0 ∨ len < 3 ∨ b1 < 160 ∨ 191 < b1 ∨ (3 ≠ 2 ∧ (b2 < 128 ∨ 191 < b2)) ∨ (3 ≠ 2 ∧ 3 ≠ 3 ∧ (b3 < 128 ∨ 191 < b3))
    · rw [decR_bad hs H, refR_zero hn hx (by rw [hl]; unfold contOf; omega)]
      rfl
    · rw [decR_val hs H (by omega), refR_val hn hx (by rw [hl]; unfold contOf; omega), hx, if_neg (by dsimp only; omega)]
  · have hs : decS c = (3, 128, 159) := by
      unfold decS
      first | (simp [hk]; done) | (repeat' split) <;> first | rfl | (exfalso; omega)
    have hn : cls c = 3 := by
      unfold cls
      first | (simp [hk]; done) | (repeat' split) <;> first | rfl | (exfalso; omega)
    have hx : xOf 3 c b1 b2 b3 = c % 16 * 4096 + b1 % 64 * 64 + b2 % 64 := rfl
    have hl : leastOf 3 = 2048 := rfl
    by_cases H : 3 = 0 ∨ len < 3 ∨ b1 < 128 ∨ 159 < b1 ∨ (3 ≠ 2 ∧ (b2 < 128 ∨ 191 < b2)) ∨ (3 ≠ 2 ∧ 3 ≠ 3 ∧ (b3 < 128 ∨ 191 < b3))
    · rw [decR_bad hs H, refR_zero hn hx (by rw [hl]; unfold contOf; omega)]
      rfl
    · rw [decR_val hs H (by omega), refR_val hn hx (by rw [hl]; unfold contOf; omega), hx, if_neg (by dsimp only; omega)]
  · have hs : decS c = (3, 128, 191) := by
      unfold decS
      first | (simp [hk]; done) | (repeat' split) <;> first | rfl | (exfalso; omega)
    have hn : cls c = 3 := by
      unfold cls
      first | (simp [hk]; done) | (repeat' split) <;> first | rfl | (exfalso; omega)
    have hx : xOf 3 c b1 b2 b3 = c % 16 * 4096 + b1 % 64 * 64 + b2 % 64 := rfl
    have hl : leastOf 3 = 2048 := rfl
    by_cases H : 3 = 0 ∨ len < 3 ∨ b1 < 128 ∨ 191 < b1 ∨ (3 ≠ 2 ∧ (b2 < 128 ∨ 191 < b2)) ∨ (3 ≠ 2 ∧ 3 ≠ 3 ∧ (b3 < 128 ∨ 191 < b3))
    · rw [decR_bad hs H, refR_zero hn hx (by rw [hl]; unfold contOf; omega)]
      rfl
    · rw [decR_val hs H (by omega), refR_val hn hx (by rw [hl]; unfold contOf; omega), hx, if_neg (by dsimp only; omega)]
  · have hs : decS c = (4, 144, 191) := by
      unfold decS
      first | (simp [hk]; done) | (repeat' split) <;> first | rfl | (exfalso; omega)
    have hn : cls c = 4 := by
      unfold cls
      first | (simp [hk]; done) | (repeat' split) <;> first | rfl | (exfalso; omega)
    have hx : xOf 4 c b1 b2 b3 = c % 8 * 262144 + b1 % 64 * 4096 + b2 % 64 * 64 + b3 % 64 := rfl
    have hl : leastOf 4 = 65536 := rfl
    by_cases H : 4 = 0 ∨ len < 4 ∨ b1 < 144 ∨ 191 < b1 ∨ (4 ≠ 2 ∧ (b2 < 128 ∨ 191 < b2)) ∨ (4 ≠ 2 ∧ 4 ≠ 3 ∧ (b3 < 128 ∨ 191 < b3))
    · rw [decR_bad hs H, refR_zero hn hx (by rw [hl]; unfold contOf; omega)]
      rfl
    · rw [decR_val hs H (by omega), refR_val hn hx (by rw [hl]; unfold contOf; omega), hx, if_neg (by dsimp only; omega)]
  · have hs : decS c = (4, 128, 191) := by
      unfold decS
      first | (simp [hk]; done) | (repeat' split) <;> first | rfl | (exfalso; omega)
    have hn : cls c = 4 := by
      unfold cls
      first | (simp [hk]; done) | (repeat' split) <;> first | rfl | (exfalso; omega)
    have hx : xOf 4 c b1 b2 b3 = c % 8 * 262144 + b1 % 64 * 4096 + b2 % 64 * 64 + b3 % 64 := rfl
    have hl : leastOf 4 = 65536 := rfl
    by_cases H : 4 = 0 ∨ len < 4 ∨ b1 < 128 ∨ 191 < b1 ∨ (4 ≠ 2 ∧ (b2 < 128 ∨ 191 < b2)) ∨ (4 ≠ 2 ∧ 4 ≠ 3 ∧ (b3 < 128 ∨ 191 < b3))
    · rw [decR_bad hs H, refR_zero hn hx (by rw [hl]; unfold contOf; omega)]
      rfl
    · rw [decR_val hs H (by omega), refR_val hn hx (by rw [hl]; unfold contOf; omega), hx, if_neg (by dsimp only; omega)]
  · have hs : decS c = (4, 128, 143) := by
      unfold decS
      first | (simp [hk]; done) | (repeat' split) <;> first | rfl | (exfalso; omega)
    have hn : cls c = 4 := by
      unfold cls
      first | (simp [hk]; done) | (repeat' split) <;> first | rfl | (exfalso; omega)
    have hx : xOf 4 c b1 b2 b3 = c % 8 * 262144 + b1 % 64 * 4096 + b2 % 64 * 64 + b3 % 64 := rfl
    have hl : leastOf 4 = 65536 := rfl
    by_cases H : 4 = 0 ∨ len < 4 ∨ b1 < 128 ∨ 143 < b1 ∨ (4 ≠ 2 ∧ (b2 < 128 ∨ 191 < b2)) ∨ (4 ≠ 2 ∧ 4 ≠ 3 ∧ (b3 < 128 ∨ 191 < b3))
    · rw [decR_bad hs H, refR_zero hn hx (by rw [hl]; unfold contOf; omega)]
      rfl
    · rw [decR_val hs H (by omega), refR_val hn hx (by rw [hl]; unfold contOf; omega), hx, if_neg (by dsimp only; omega)]
theorem refP_low {l : List UInt8} (h : (l.getD 0 0).toNat < 128) : refP l = ((l.getD 0 0).toNat, 1) := by
  have hd : decP l = ((l.getD 0 0).toNat, 1) := by unfold decP; rw [if_pos h]
  have hb : ¬ decBad l := by unfold decBad; rw [hd]; dsimp only; omega
  unfold refP
  rw [if_neg hb, hd]
theorem refP_high {l : List UInt8} (h : ¬ (l.getD 0 0).toNat < 128) : refP l = refR l.length (l.getD 0 0).toNat (l.getD 1 0).toNat (l.getD 2 0).toNat (l.getD 3 0).toNat := by
  have hd : decP l = decR l.length (l.getD 0 0).toNat (l.getD 1 0).toNat (l.getD 2 0).toNat (l.getD 3 0).toNat := by unfold decP; rw [if_neg h]
  rw [← refR_ok _ _ _ _ _ (by omega) (UInt8.toNat_lt _) (UInt8.toNat_lt _) (UInt8.toNat_lt _) (UInt8.toNat_lt _), ← hd]
  rfl
def yK (x0 : Nat) (l : List UInt8) : Nat → Nat
  | 0 => x0
  | m + 1 => yK x0 l m * 64 + (l.getD (m + 1) 0).toNat % 64
theorem yK_lt {x0 : Nat} (h : x0 < 32) (l : List UInt8) (m : Nat) : yK x0 l m < 32 * 64 ^ m := by
  induction m with
  | zero => simpa [yK] using h
  | succ m ih =>
    have : (64 : Nat) ^ (m + 1) = 64 * 64 ^ m := by rw [Nat.pow_succ]; omega
    unfold yK
    omega
theorem or_add' {x k N M : Nat} (hN : N = x * 2 ^ k) (hM : M < 2 ^ k) : N ||| M = N + M := or_add hN hM

set_option maxHeartbeats 2000000 in
theorem letter_ok (w : World) (l : List UInt8) (hl : 0 < l.length) (hmax : l.length ≤ 1000000) :
    VC Tryd.prog 21 [.string (sb l)] w (fun v w' => v = .tuple #[.int .i64 ((refP l).1 : Nat), .int .i64 ((refP l).2 : Nat)] ∧ Keep No w w') := by
  obtain ⟨c, q0⟩ : ∃ c, c = (l.getD 0 0).toNat := ⟨_, rfl⟩
  obtain ⟨b1, q1⟩ : ∃ c, c = (l.getD 1 0).toNat := ⟨_, rfl⟩
  obtain ⟨b2, q2⟩ : ∃ c, c = (l.getD 2 0).toNat := ⟨_, rfl⟩
  obtain ⟨b3, q3⟩ : ∃ c, c = (l.getD 3 0).toNat := ⟨_, rfl⟩
  have c8 : c < 256 := by rw [q0]; exact UInt8.toNat_lt _
  have b18 : b1 < 256 := by rw [q1]; exact UInt8.toNat_lt _
  have b28 : b2 < 256 := by rw [q2]; exact UInt8.toNat_lt _
  have b38 : b3 < 256 := by rw [q3]; exact UInt8.toNat_lt _
  obtain ⟨R, hR⟩ : ∃ R, R = refP l := ⟨_, rfl⟩
  rw [← hR]
  have hszl := sb_size l
  refine VC.of tt_ok Tryd.func21 rfl (by decide +kernel) (Nat.le_of_ble_eq_true rfl) ?_; (conv => whnf)
  refine VIdxS.sb 0 rfl (by omega) ?_
  rw [← q0]
  (conv => whnf)
  refine VRes.i64 (by omega) ?_
  (conv => whnf)
  refine VCmp.mk (fun h128 => ?_) (fun h128 => ?_) <;> (conv => whnf)
  · rw [refP_low (by omega), ← q0] at hR
    subst hR
    exact ⟨rfl, Keep.refl _ _⟩
  rw [refP_high (by omega), ← q0, ← q1, ← q2, ← q3] at hR
  refine VCmp.mk (fun g0a => ?_) (fun g0a => ?_) <;> (conv => whnf)
  · refine VCmp.mk (fun g0b => ?_) (fun g0b => ?_) <;> (conv => whnf)
    · have hn : cls c = 2 := by
        unfold cls
        (repeat' split) <;> first | rfl | (exfalso; omega)
      unfold refR at hR
      rw [hn] at hR
      (conv => whnf)
      refine VRes.maskNat (N := c) (k := 5) rfl rfl (by omega) (by omega) ?_
      (conv => whnf)
      refine VCmp.mk (fun h => absurd h (by omega)) (fun _ => ?_); (conv => whnf)
      rw [hszl]
      refine VCmp.mk (fun hlen => ?_) (fun hlen => ?_) <;> (conv => whnf)
      · rw [if_pos (Or.inr (by omega))] at hR
        subst hR
        exact ⟨rfl, Keep.refl _ _⟩
      rw [if_neg (by omega)] at hR
      have hx0 : c % 2 ^ 5 < 32 := by have := Nat.mod_lt c (show 0 < 2 ^ 5 by decide); omega
      refine VLoop.by_ tt_ok (S := Nat) (fun m => [(0, .string (sb l)), (5, .int .i64 2), (6, .int .i64 (yK (c % 2 ^ 5) l m : Nat)), (7, .int .i64 ((m + 1 : Nat) : Int))])
        (fun m w' => m + 1 ≤ 2 ∧ (∀ j, 1 ≤ j → j < m + 1 → (l.getD j 0).toNat / 64 = 2) ∧ w' = w) (fun m => 2 - m) 0
        ⟨rfl, rfl, rfl, rfl, trivial⟩ ⟨by omega, fun j h1 h2 => by omega, rfl⟩ ?_
      rintro m w' ⟨hm, hcont, rfl⟩
      (conv => whnf)
      refine VCmp.mk (fun h => ?_) (fun h => ?_) <;> (conv => whnf)
      · have hlt := yK_lt hx0 l m
        have hp : 64 ^ m ≤ 64 ^ 3 := Nat.pow_le_pow_right (by omega) (by omega)
        have hb8 := (l.getD (m + 1) 0).toNat_lt
        refine VIdxS.sb (m + 1) rfl (by omega) ?_
        (conv => whnf)
        refine VRes.top2 (x := l.getD (m + 1) 0) rfl rfl ?_
        (conv => whnf)
        refine VCmp.mk (fun h2 => ?_) (fun h2 => ?_) <;> (conv => whnf)
        · have hnc : ¬ contOf 2 b1 b2 b3 := by
            intro hc
            obtain ⟨e1, e2, e3⟩ := hc
            apply h2
            have : (l.getD (m + 1) 0).toNat / 64 = 2 := by
              have hm3 : m = 0 ∨ m = 1 ∨ m = 2 := by omega
              rcases hm3 with rfl | rfl | rfl
              · rw [← q1]; exact e1
              · rw [← q2]; exact e2 (by omega)
              · rw [← q3]; exact e3 (by omega)
            omega
          rw [if_pos hnc] at hR
          subst hR
          exact ⟨rfl, Keep.refl _ _⟩
        refine VReq.mk (by omega) ?_
        refine VRes.shlNat (N := yK (c % 2 ^ 5) l m) (s := 6) rfl rfl (by omega) (by omega) ?_
        (conv => whnf)
        refine VIdxS.sb (m + 1) rfl (by omega) ?_
        (conv => whnf)
        refine VRes.mask8 (x := (l.getD (m + 1) 0).toNat) (k := 6) rfl (by omega) rfl (by omega) ?_
        (conv => whnf)
        refine VRes.i64 (by omega) ?_
        (conv => whnf)
        refine VRes.orNat (N := yK (c % 2 ^ 5) l m * 2 ^ 6) (M := (l.getD (m + 1) 0).toNat % 2 ^ 6) rfl rfl (by omega) (by omega) (or_add' (x := yK (c % 2 ^ 5) l m) (k := 6) rfl (by omega)) ?_
        (conv => whnf)
        refine VRes.i64 (by omega) ?_; (conv => whnf)
        refine ⟨m + 1, ⟨rfl, rfl, rfl, rfl, trivial⟩, ⟨by omega, fun j h1 h3 => ?_, rfl⟩, by omega⟩
        by_cases hj : j < m + 1
        · exact hcont j h1 hj
        · obtain rfl : j = m + 1 := by omega
          omega
      obtain rfl : m = 1 := by omega
      have hct : contOf 2 b1 b2 b3 := by
        refine ⟨by rw [q1]; exact hcont 1 (by omega) (by omega), fun h3 => by rw [q2]; exact hcont 2 (by omega) (by omega), fun h4 => by rw [q3]; exact hcont 3 (by omega) (by omega)⟩
      rw [if_neg (fun h => h hct)] at hR
      have hy : yK (c % 2 ^ 5) l 1 = xOf 2 c b1 b2 b3 := by
        unfold xOf
        simp only [yK]
        rw [q1]
        simp
        try omega
      rw [hy]
      have hxb : xOf 2 c b1 b2 b3 ≤ 2097151 := by
        unfold xOf
        simp
        omega
      have hle : leastOf 2 = 128 := rfl
      rw [hle] at hR
      obtain ⟨x, hx⟩ : ∃ x, x = xOf 2 c b1 b2 b3 := ⟨_, rfl⟩
      rw [← hx] at hR hxb
      rw [← hx]
      refine VFill.by_ rfl ?_; (conv => whnf)
      refine ⟨fun w1 hb k1 => ?_⟩
      (conv => whnf)
      refine VIdx.one 2 rfl (by omega) rfl ?_
      (conv => whnf)
      refine VLoad.by_ (hb.cell 2) ?_
      (conv => whnf)
      refine VCmp.mk (fun g1 => ?_) (fun g1 => ?_) <;> (conv => whnf)
      · rw [if_pos (Or.inl (by omega))] at hR
        subst hR
        exact ⟨rfl, k1⟩
      refine VCmp.mk (fun g2 => ?_) (fun g2 => ?_) <;> (conv => whnf)
      · rw [if_pos (Or.inr (Or.inl (by omega)))] at hR
        subst hR
        exact ⟨rfl, k1⟩
      refine VCmp.mk (fun g3 => ?_) (fun g3 => ?_) <;> (conv => whnf)
      · refine VCmp.mk (fun g4 => ?_) (fun g4 => ?_) <;> (conv => whnf)
        · rw [if_pos (Or.inr (Or.inr (by omega)))] at hR
          subst hR
          exact ⟨rfl, k1⟩
        · rw [if_neg (by omega)] at hR
          subst hR
          exact ⟨rfl, k1⟩
      · rw [if_neg (by omega)] at hR
        subst hR
        exact ⟨rfl, k1⟩
    · refine VCmp.mk (fun g1a => ?_) (fun g1a => ?_) <;> (conv => whnf)
      · refine VCmp.mk (fun g1b => ?_) (fun g1b => ?_) <;> (conv => whnf)
        · have hn : cls c = 3 := by
            unfold cls
            (repeat' split) <;> first | rfl | (exfalso; omega)
          unfold refR at hR
          rw [hn] at hR
          (conv => whnf)
          refine VRes.maskNat (N := c) (k := 4) rfl rfl (by omega) (by omega) ?_
          (conv => whnf)
          refine VCmp.mk (fun h => absurd h (by omega)) (fun _ => ?_); (conv => whnf)
          rw [hszl]
          refine VCmp.mk (fun hlen => ?_) (fun hlen => ?_) <;> (conv => whnf)
          · rw [if_pos (Or.inr (by omega))] at hR
            subst hR
            exact ⟨rfl, Keep.refl _ _⟩
          rw [if_neg (by omega)] at hR
          have hx0 : c % 2 ^ 4 < 32 := by have := Nat.mod_lt c (show 0 < 2 ^ 4 by decide); omega
          refine VLoop.by_ tt_ok (S := Nat) (fun m => [(0, .string (sb l)), (5, .int .i64 3), (6, .int .i64 (yK (c % 2 ^ 4) l m : Nat)), (7, .int .i64 ((m + 1 : Nat) : Int))])
            (fun m w' => m + 1 ≤ 3 ∧ (∀ j, 1 ≤ j → j < m + 1 → (l.getD j 0).toNat / 64 = 2) ∧ w' = w) (fun m => 3 - m) 0
            ⟨rfl, rfl, rfl, rfl, trivial⟩ ⟨by omega, fun j h1 h2 => by omega, rfl⟩ ?_
          rintro m w' ⟨hm, hcont, rfl⟩
          (conv => whnf)
          refine VCmp.mk (fun h => ?_) (fun h => ?_) <;> (conv => whnf)
          · have hlt := yK_lt hx0 l m
            have hp : 64 ^ m ≤ 64 ^ 3 := Nat.pow_le_pow_right (by omega) (by omega)
            have hb8 := (l.getD (m + 1) 0).toNat_lt
            refine VIdxS.sb (m + 1) rfl (by omega) ?_
            (conv => whnf)
            refine VRes.top2 (x := l.getD (m + 1) 0) rfl rfl ?_
            (conv => whnf)
            refine VCmp.mk (fun h2 => ?_) (fun h2 => ?_) <;> (conv => whnf)
            · have hnc : ¬ contOf 3 b1 b2 b3 := by
                intro hc
                obtain ⟨e1, e2, e3⟩ := hc
                apply h2
                have : (l.getD (m + 1) 0).toNat / 64 = 2 := by
                  have hm3 : m = 0 ∨ m = 1 ∨ m = 2 := by omega
                  rcases hm3 with rfl | rfl | rfl
                  · rw [← q1]; exact e1
                  · rw [← q2]; exact e2 (by omega)
                  · rw [← q3]; exact e3 (by omega)
                omega
              rw [if_pos hnc] at hR
              subst hR
              exact ⟨rfl, Keep.refl _ _⟩
            refine VReq.mk (by omega) ?_
            refine VRes.shlNat (N := yK (c % 2 ^ 4) l m) (s := 6) rfl rfl (by omega) (by omega) ?_
            (conv => whnf)
            refine VIdxS.sb (m + 1) rfl (by omega) ?_
            (conv => whnf)
            refine VRes.mask8 (x := (l.getD (m + 1) 0).toNat) (k := 6) rfl (by omega) rfl (by omega) ?_
            (conv => whnf)
            refine VRes.i64 (by omega) ?_
            (conv => whnf)
            refine VRes.orNat (N := yK (c % 2 ^ 4) l m * 2 ^ 6) (M := (l.getD (m + 1) 0).toNat % 2 ^ 6) rfl rfl (by omega) (by omega) (or_add' (x := yK (c % 2 ^ 4) l m) (k := 6) rfl (by omega)) ?_
            (conv => whnf)
            refine VRes.i64 (by omega) ?_; (conv => whnf)
            refine ⟨m + 1, ⟨rfl, rfl, rfl, rfl, trivial⟩, ⟨by omega, fun j h1 h3 => ?_, rfl⟩, by omega⟩
            by_cases hj : j < m + 1
            · exact hcont j h1 hj
            · obtain rfl : j = m + 1 := by omega
              omega
          obtain rfl : m = 2 := by omega
          have hct : contOf 3 b1 b2 b3 := by
            refine ⟨by rw [q1]; exact hcont 1 (by omega) (by omega), fun h3 => by rw [q2]; exact hcont 2 (by omega) (by omega), fun h4 => by rw [q3]; exact hcont 3 (by omega) (by omega)⟩
          rw [if_neg (fun h => h hct)] at hR
          have hy : yK (c % 2 ^ 4) l 2 = xOf 3 c b1 b2 b3 := by
            unfold xOf
            simp only [yK]
            rw [q1, q2]
            simp
            try omega
          rw [hy]
          have hxb : xOf 3 c b1 b2 b3 ≤ 2097151 := by
            unfold xOf
            simp
            omega
          have hle : leastOf 3 = 2048 := rfl
          rw [hle] at hR
          obtain ⟨x, hx⟩ : ∃ x, x = xOf 3 c b1 b2 b3 := ⟨_, rfl⟩
          rw [← hx] at hR hxb
          rw [← hx]
          refine VFill.by_ rfl ?_; (conv => whnf)
          refine ⟨fun w1 hb k1 => ?_⟩
          (conv => whnf)
          refine VIdx.one 3 rfl (by omega) rfl ?_
          (conv => whnf)
          refine VLoad.by_ (hb.cell 3) ?_
          (conv => whnf)
          refine VCmp.mk (fun g1 => ?_) (fun g1 => ?_) <;> (conv => whnf)
          · rw [if_pos (Or.inl (by omega))] at hR
            subst hR
            exact ⟨rfl, k1⟩
          refine VCmp.mk (fun g2 => ?_) (fun g2 => ?_) <;> (conv => whnf)
          · rw [if_pos (Or.inr (Or.inl (by omega)))] at hR
            subst hR
            exact ⟨rfl, k1⟩
          refine VCmp.mk (fun g3 => ?_) (fun g3 => ?_) <;> (conv => whnf)
          · refine VCmp.mk (fun g4 => ?_) (fun g4 => ?_) <;> (conv => whnf)
            · rw [if_pos (Or.inr (Or.inr (by omega)))] at hR
              subst hR
              exact ⟨rfl, k1⟩
            · rw [if_neg (by omega)] at hR
              subst hR
              exact ⟨rfl, k1⟩
          · rw [if_neg (by omega)] at hR
            subst hR
            exact ⟨rfl, k1⟩
        · refine VCmp.mk (fun g2a => ?_) (fun g2a => ?_) <;> (conv => whnf)
          · refine VCmp.mk (fun g2b => ?_) (fun g2b => ?_) <;> (conv => whnf)
            · have hn : cls c = 4 := by
                unfold cls
                (repeat' split) <;> first | rfl | (exfalso; omega)
              unfold refR at hR
              rw [hn] at hR
              (conv => whnf)
              refine VRes.maskNat (N := c) (k := 3) rfl rfl (by omega) (by omega) ?_
              (conv => whnf)
              refine VCmp.mk (fun h => absurd h (by omega)) (fun _ => ?_); (conv => whnf)
              rw [hszl]
              refine VCmp.mk (fun hlen => ?_) (fun hlen => ?_) <;> (conv => whnf)
              · rw [if_pos (Or.inr (by omega))] at hR
                subst hR
                exact ⟨rfl, Keep.refl _ _⟩
              rw [if_neg (by omega)] at hR
              have hx0 : c % 2 ^ 3 < 32 := by have := Nat.mod_lt c (show 0 < 2 ^ 3 by decide); omega
              refine VLoop.by_ tt_ok (S := Nat) (fun m => [(0, .string (sb l)), (5, .int .i64 4), (6, .int .i64 (yK (c % 2 ^ 3) l m : Nat)), (7, .int .i64 ((m + 1 : Nat) : Int))])
                (fun m w' => m + 1 ≤ 4 ∧ (∀ j, 1 ≤ j → j < m + 1 → (l.getD j 0).toNat / 64 = 2) ∧ w' = w) (fun m => 4 - m) 0
                ⟨rfl, rfl, rfl, rfl, trivial⟩ ⟨by omega, fun j h1 h2 => by omega, rfl⟩ ?_
              rintro m w' ⟨hm, hcont, rfl⟩
              (conv => whnf)
              refine VCmp.mk (fun h => ?_) (fun h => ?_) <;> (conv => whnf)
              · have hlt := yK_lt hx0 l m
                have hp : 64 ^ m ≤ 64 ^ 3 := Nat.pow_le_pow_right (by omega) (by omega)
                have hb8 := (l.getD (m + 1) 0).toNat_lt
                refine VIdxS.sb (m + 1) rfl (by omega) ?_
                (conv => whnf)
                refine VRes.top2 (x := l.getD (m + 1) 0) rfl rfl ?_
                (conv => whnf)
                refine VCmp.mk (fun h2 => ?_) (fun h2 => ?_) <;> (conv => whnf)
                · have hnc : ¬ contOf 4 b1 b2 b3 := by
                    intro hc
                    obtain ⟨e1, e2, e3⟩ := hc
                    apply h2
                    have : (l.getD (m + 1) 0).toNat / 64 = 2 := by
                      have hm3 : m = 0 ∨ m = 1 ∨ m = 2 := by omega
                      rcases hm3 with rfl | rfl | rfl
                      · rw [← q1]; exact e1
                      · rw [← q2]; exact e2 (by omega)
                      · rw [← q3]; exact e3 (by omega)
                    omega
                  rw [if_pos hnc] at hR
                  subst hR
                  exact ⟨rfl, Keep.refl _ _⟩
                refine VReq.mk (by omega) ?_
                refine VRes.shlNat (N := yK (c % 2 ^ 3) l m) (s := 6) rfl rfl (by omega) (by omega) ?_
                (conv => whnf)
                refine VIdxS.sb (m + 1) rfl (by omega) ?_
                (conv => whnf)
                refine VRes.mask8 (x := (l.getD (m + 1) 0).toNat) (k := 6) rfl (by omega) rfl (by omega) ?_
                (conv => whnf)
                refine VRes.i64 (by omega) ?_
                (conv => whnf)
                refine VRes.orNat (N := yK (c % 2 ^ 3) l m * 2 ^ 6) (M := (l.getD (m + 1) 0).toNat % 2 ^ 6) rfl rfl (by omega) (by omega) (or_add' (x := yK (c % 2 ^ 3) l m) (k := 6) rfl (by omega)) ?_
                (conv => whnf)
                refine VRes.i64 (by omega) ?_; (conv => whnf)
                refine ⟨m + 1, ⟨rfl, rfl, rfl, rfl, trivial⟩, ⟨by omega, fun j h1 h3 => ?_, rfl⟩, by omega⟩
                by_cases hj : j < m + 1
                · exact hcont j h1 hj
                · obtain rfl : j = m + 1 := by omega
                  omega
              obtain rfl : m = 3 := by omega
              have hct : contOf 4 b1 b2 b3 := by
                refine ⟨by rw [q1]; exact hcont 1 (by omega) (by omega), fun h3 => by rw [q2]; exact hcont 2 (by omega) (by omega), fun h4 => by rw [q3]; exact hcont 3 (by omega) (by omega)⟩
              rw [if_neg (fun h => h hct)] at hR
              have hy : yK (c % 2 ^ 3) l 3 = xOf 4 c b1 b2 b3 := by
                unfold xOf
                simp only [yK]
                rw [q1, q2, q3]
                simp
                try omega
              rw [hy]
              have hxb : xOf 4 c b1 b2 b3 ≤ 2097151 := by
                unfold xOf
                simp
                omega
              have hle : leastOf 4 = 65536 := rfl
              rw [hle] at hR
              obtain ⟨x, hx⟩ : ∃ x, x = xOf 4 c b1 b2 b3 := ⟨_, rfl⟩
              rw [← hx] at hR hxb
              rw [← hx]
              refine VFill.by_ rfl ?_; (conv => whnf)
              refine ⟨fun w1 hb k1 => ?_⟩
              (conv => whnf)
              refine VIdx.one 4 rfl (by omega) rfl ?_
              (conv => whnf)
              refine VLoad.by_ (hb.cell 4) ?_
              (conv => whnf)
              refine VCmp.mk (fun g1 => ?_) (fun g1 => ?_) <;> (conv => whnf)
              · rw [if_pos (Or.inl (by omega))] at hR
                subst hR
                exact ⟨rfl, k1⟩
              refine VCmp.mk (fun g2 => ?_) (fun g2 => ?_) <;> (conv => whnf)
              · rw [if_pos (Or.inr (Or.inl (by omega)))] at hR
                subst hR
                exact ⟨rfl, k1⟩
              refine VCmp.mk (fun g3 => ?_) (fun g3 => ?_) <;> (conv => whnf)
              · refine VCmp.mk (fun g4 => ?_) (fun g4 => ?_) <;> (conv => whnf)
                · rw [if_pos (Or.inr (Or.inr (by omega)))] at hR
                  subst hR
                  exact ⟨rfl, k1⟩
                · rw [if_neg (by omega)] at hR
                  subst hR
                  exact ⟨rfl, k1⟩
              · rw [if_neg (by omega)] at hR
                subst hR
                exact ⟨rfl, k1⟩
            · have hn : cls c = 0 := by
                unfold cls
                (repeat' split) <;> first | rfl | (exfalso; omega)
              unfold refR at hR
              rw [hn, if_pos (Or.inl rfl)] at hR
              refine VCmp.mk (fun _ => ?_) (fun h => absurd h (by omega)); (conv => whnf)
              subst hR
              exact ⟨rfl, Keep.refl _ _⟩
          · have hn : cls c = 0 := by
              unfold cls
              (repeat' split) <;> first | rfl | (exfalso; omega)
            unfold refR at hR
            rw [hn, if_pos (Or.inl rfl)] at hR
            refine VCmp.mk (fun _ => ?_) (fun h => absurd h (by omega)); (conv => whnf)
            subst hR
            exact ⟨rfl, Keep.refl _ _⟩
      · refine VCmp.mk (fun g2a => ?_) (fun g2a => ?_) <;> (conv => whnf)
        · refine VCmp.mk (fun g2b => ?_) (fun g2b => ?_) <;> (conv => whnf)
          · have hn : cls c = 4 := by
              unfold cls
              (repeat' split) <;> first | rfl | (exfalso; omega)
            unfold refR at hR
            rw [hn] at hR
            (conv => whnf)
            refine VRes.maskNat (N := c) (k := 3) rfl rfl (by omega) (by omega) ?_
            (conv => whnf)
            refine VCmp.mk (fun h => absurd h (by omega)) (fun _ => ?_); (conv => whnf)
            rw [hszl]
            refine VCmp.mk (fun hlen => ?_) (fun hlen => ?_) <;> (conv => whnf)
            · rw [if_pos (Or.inr (by omega))] at hR
              subst hR
              exact ⟨rfl, Keep.refl _ _⟩
            rw [if_neg (by omega)] at hR
            have hx0 : c % 2 ^ 3 < 32 := by have := Nat.mod_lt c (show 0 < 2 ^ 3 by decide); omega
            refine VLoop.by_ tt_ok (S := Nat) (fun m => [(0, .string (sb l)), (5, .int .i64 4), (6, .int .i64 (yK (c % 2 ^ 3) l m : Nat)), (7, .int .i64 ((m + 1 : Nat) : Int))])
              (fun m w' => m + 1 ≤ 4 ∧ (∀ j, 1 ≤ j → j < m + 1 → (l.getD j 0).toNat / 64 = 2) ∧ w' = w) (fun m => 4 - m) 0
              ⟨rfl, rfl, rfl, rfl, trivial⟩ ⟨by omega, fun j h1 h2 => by omega, rfl⟩ ?_
            rintro m w' ⟨hm, hcont, rfl⟩
            (conv => whnf)
            refine VCmp.mk (fun h => ?_) (fun h => ?_) <;> (conv => whnf)
            · have hlt := yK_lt hx0 l m
              have hp : 64 ^ m ≤ 64 ^ 3 := Nat.pow_le_pow_right (by omega) (by omega)
              have hb8 := (l.getD (m + 1) 0).toNat_lt
              refine VIdxS.sb (m + 1) rfl (by omega) ?_
              (conv => whnf)
              refine VRes.top2 (x := l.getD (m + 1) 0) rfl rfl ?_
              (conv => whnf)
              refine VCmp.mk (fun h2 => ?_) (fun h2 => ?_) <;> (conv => whnf)
              · have hnc : ¬ contOf 4 b1 b2 b3 := by
                  intro hc
                  obtain ⟨e1, e2, e3⟩ := hc
                  apply h2
                  have : (l.getD (m + 1) 0).toNat / 64 = 2 := by
                    have hm3 : m = 0 ∨ m = 1 ∨ m = 2 := by omega
                    rcases hm3 with rfl | rfl | rfl
                    · rw [← q1]; exact e1
                    · rw [← q2]; exact e2 (by omega)
                    · rw [← q3]; exact e3 (by omega)
                  omega
                rw [if_pos hnc] at hR
                subst hR
                exact ⟨rfl, Keep.refl _ _⟩
              refine VReq.mk (by omega) ?_
              refine VRes.shlNat (N := yK (c % 2 ^ 3) l m) (s := 6) rfl rfl (by omega) (by omega) ?_
              (conv => whnf)
              refine VIdxS.sb (m + 1) rfl (by omega) ?_
              (conv => whnf)
              refine VRes.mask8 (x := (l.getD (m + 1) 0).toNat) (k := 6) rfl (by omega) rfl (by omega) ?_
              (conv => whnf)
              refine VRes.i64 (by omega) ?_
              (conv => whnf)
              refine VRes.orNat (N := yK (c % 2 ^ 3) l m * 2 ^ 6) (M := (l.getD (m + 1) 0).toNat % 2 ^ 6) rfl rfl (by omega) (by omega) (or_add' (x := yK (c % 2 ^ 3) l m) (k := 6) rfl (by omega)) ?_
              (conv => whnf)
              refine VRes.i64 (by omega) ?_; (conv => whnf)
              refine ⟨m + 1, ⟨rfl, rfl, rfl, rfl, trivial⟩, ⟨by omega, fun j h1 h3 => ?_, rfl⟩, by omega⟩
              by_cases hj : j < m + 1
              · exact hcont j h1 hj
              · obtain rfl : j = m + 1 := by omega
                omega
            obtain rfl : m = 3 := by omega
            have hct : contOf 4 b1 b2 b3 := by
              refine ⟨by rw [q1]; exact hcont 1 (by omega) (by omega), fun h3 => by rw [q2]; exact hcont 2 (by omega) (by omega), fun h4 => by rw [q3]; exact hcont 3 (by omega) (by omega)⟩
            rw [if_neg (fun h => h hct)] at hR
            have hy : yK (c % 2 ^ 3) l 3 = xOf 4 c b1 b2 b3 := by
              unfold xOf
              simp only [yK]
              rw [q1, q2, q3]
              simp
              try omega
            rw [hy]
            have hxb : xOf 4 c b1 b2 b3 ≤ 2097151 := by
              unfold xOf
              simp
              omega
            have hle : leastOf 4 = 65536 := rfl
            rw [hle] at hR
            obtain ⟨x, hx⟩ : ∃ x, x = xOf 4 c b1 b2 b3 := ⟨_, rfl⟩
            rw [← hx] at hR hxb
            rw [← hx]
            refine VFill.by_ rfl ?_; (conv => whnf)
            refine ⟨fun w1 hb k1 => ?_⟩
            (conv => whnf)
            refine VIdx.one 4 rfl (by omega) rfl ?_
            (conv => whnf)
            refine VLoad.by_ (hb.cell 4) ?_
            (conv => whnf)
            refine VCmp.mk (fun g1 => ?_) (fun g1 => ?_) <;> (conv => whnf)
            · rw [if_pos (Or.inl (by omega))] at hR
              subst hR
              exact ⟨rfl, k1⟩
            refine VCmp.mk (fun g2 => ?_) (fun g2 => ?_) <;> (conv => whnf)
            · rw [if_pos (Or.inr (Or.inl (by omega)))] at hR
              subst hR
              exact ⟨rfl, k1⟩
            refine VCmp.mk (fun g3 => ?_) (fun g3 => ?_) <;> (conv => whnf)
            · refine VCmp.mk (fun g4 => ?_) (fun g4 => ?_) <;> (conv => whnf)
              · rw [if_pos (Or.inr (Or.inr (by omega)))] at hR
                subst hR
                exact ⟨rfl, k1⟩
              · rw [if_neg (by omega)] at hR
                subst hR
                exact ⟨rfl, k1⟩
            · rw [if_neg (by omega)] at hR
              subst hR
              exact ⟨rfl, k1⟩
          · have hn : cls c = 0 := by
              unfold cls
              (repeat' split) <;> first | rfl | (exfalso; omega)
            unfold refR at hR
            rw [hn, if_pos (Or.inl rfl)] at hR
            refine VCmp.mk (fun _ => ?_) (fun h => absurd h (by omega)); (conv => whnf)
            subst hR
            exact ⟨rfl, Keep.refl _ _⟩
        · have hn : cls c = 0 := by
            unfold cls
            (repeat' split) <;> first | rfl | (exfalso; omega)
          unfold refR at hR
          rw [hn, if_pos (Or.inl rfl)] at hR
          refine VCmp.mk (fun _ => ?_) (fun h => absurd h (by omega)); (conv => whnf)
          subst hR
          exact ⟨rfl, Keep.refl _ _⟩
  · refine VCmp.mk (fun g1a => ?_) (fun g1a => ?_) <;> (conv => whnf)
    · refine VCmp.mk (fun g1b => ?_) (fun g1b => ?_) <;> (conv => whnf)
      · have hn : cls c = 3 := by
          unfold cls
          (repeat' split) <;> first | rfl | (exfalso; omega)
        unfold refR at hR
        rw [hn] at hR
        (conv => whnf)
        refine VRes.maskNat (N := c) (k := 4) rfl rfl (by omega) (by omega) ?_
        (conv => whnf)
        refine VCmp.mk (fun h => absurd h (by omega)) (fun _ => ?_); (conv => whnf)
        rw [hszl]
        refine VCmp.mk (fun hlen => ?_) (fun hlen => ?_) <;> (conv => whnf)
        · rw [if_pos (Or.inr (by omega))] at hR
          subst hR
          exact ⟨rfl, Keep.refl _ _⟩
        rw [if_neg (by omega)] at hR
        have hx0 : c % 2 ^ 4 < 32 := by have := Nat.mod_lt c (show 0 < 2 ^ 4 by decide); omega
        refine VLoop.by_ tt_ok (S := Nat) (fun m => [(0, .string (sb l)), (5, .int .i64 3), (6, .int .i64 (yK (c % 2 ^ 4) l m : Nat)), (7, .int .i64 ((m + 1 : Nat) : Int))])
          (fun m w' => m + 1 ≤ 3 ∧ (∀ j, 1 ≤ j → j < m + 1 → (l.getD j 0).toNat / 64 = 2) ∧ w' = w) (fun m => 3 - m) 0
          ⟨rfl, rfl, rfl, rfl, trivial⟩ ⟨by omega, fun j h1 h2 => by omega, rfl⟩ ?_
        rintro m w' ⟨hm, hcont, rfl⟩
        (conv => whnf)
        refine VCmp.mk (fun h => ?_) (fun h => ?_) <;> (conv => whnf)
        · have hlt := yK_lt hx0 l m
          have hp : 64 ^ m ≤ 64 ^ 3 := Nat.pow_le_pow_right (by omega) (by omega)
          have hb8 := (l.getD (m + 1) 0).toNat_lt
          refine VIdxS.sb (m + 1) rfl (by omega) ?_
          (conv => whnf)
          refine VRes.top2 (x := l.getD (m + 1) 0) rfl rfl ?_
          (conv => whnf)
          refine VCmp.mk (fun h2 => ?_) (fun h2 => ?_) <;> (conv => whnf)
          · have hnc : ¬ contOf 3 b1 b2 b3 := by
              intro hc
              obtain ⟨e1, e2, e3⟩ := hc
              apply h2
              have : (l.getD (m + 1) 0).toNat / 64 = 2 := by
                have hm3 : m = 0 ∨ m = 1 ∨ m = 2 := by omega
                rcases hm3 with rfl | rfl | rfl
                · rw [← q1]; exact e1
                · rw [← q2]; exact e2 (by omega)
                · rw [← q3]; exact e3 (by omega)
              omega
            rw [if_pos hnc] at hR
            subst hR
            exact ⟨rfl, Keep.refl _ _⟩
          refine VReq.mk (by omega) ?_
          refine VRes.shlNat (N := yK (c % 2 ^ 4) l m) (s := 6) rfl rfl (by omega) (by omega) ?_
          (conv => whnf)
          refine VIdxS.sb (m + 1) rfl (by omega) ?_
          (conv => whnf)
          refine VRes.mask8 (x := (l.getD (m + 1) 0).toNat) (k := 6) rfl (by omega) rfl (by omega) ?_
          (conv => whnf)
          refine VRes.i64 (by omega) ?_
          (conv => whnf)
          refine VRes.orNat (N := yK (c % 2 ^ 4) l m * 2 ^ 6) (M := (l.getD (m + 1) 0).toNat % 2 ^ 6) rfl rfl (by omega) (by omega) (or_add' (x := yK (c % 2 ^ 4) l m) (k := 6) rfl (by omega)) ?_
          (conv => whnf)
          refine VRes.i64 (by omega) ?_; (conv => whnf)
          refine ⟨m + 1, ⟨rfl, rfl, rfl, rfl, trivial⟩, ⟨by omega, fun j h1 h3 => ?_, rfl⟩, by omega⟩
          by_cases hj : j < m + 1
          · exact hcont j h1 hj
          · obtain rfl : j = m + 1 := by omega
            omega
        obtain rfl : m = 2 := by omega
        have hct : contOf 3 b1 b2 b3 := by
          refine ⟨by rw [q1]; exact hcont 1 (by omega) (by omega), fun h3 => by rw [q2]; exact hcont 2 (by omega) (by omega), fun h4 => by rw [q3]; exact hcont 3 (by omega) (by omega)⟩
        rw [if_neg (fun h => h hct)] at hR
        have hy : yK (c % 2 ^ 4) l 2 = xOf 3 c b1 b2 b3 := by
          unfold xOf
          simp only [yK]
          rw [q1, q2]
          simp
          try omega
        rw [hy]
        have hxb : xOf 3 c b1 b2 b3 ≤ 2097151 := by
          unfold xOf
          simp
          omega
        have hle : leastOf 3 = 2048 := rfl
        rw [hle] at hR
        obtain ⟨x, hx⟩ : ∃ x, x = xOf 3 c b1 b2 b3 := ⟨_, rfl⟩
        rw [← hx] at hR hxb
        rw [← hx]
        refine VFill.by_ rfl ?_; (conv => whnf)
        refine ⟨fun w1 hb k1 => ?_⟩
        (conv => whnf)
        refine VIdx.one 3 rfl (by omega) rfl ?_
        (conv => whnf)
        refine VLoad.by_ (hb.cell 3) ?_
        (conv => whnf)
        refine VCmp.mk (fun g1 => ?_) (fun g1 => ?_) <;> (conv => whnf)
        · rw [if_pos (Or.inl (by omega))] at hR
          subst hR
          exact ⟨rfl, k1⟩
        refine VCmp.mk (fun g2 => ?_) (fun g2 => ?_) <;> (conv => whnf)
        · rw [if_pos (Or.inr (Or.inl (by omega)))] at hR
          subst hR
          exact ⟨rfl, k1⟩
        refine VCmp.mk (fun g3 => ?_) (fun g3 => ?_) <;> (conv => whnf)
        · refine VCmp.mk (fun g4 => ?_) (fun g4 => ?_) <;> (conv => whnf)
          · rw [if_pos (Or.inr (Or.inr (by omega)))] at hR
            subst hR
            exact ⟨rfl, k1⟩
          · rw [if_neg (by omega)] at hR
            subst hR
            exact ⟨rfl, k1⟩
        · rw [if_neg (by omega)] at hR
          subst hR
          exact ⟨rfl, k1⟩
      · refine VCmp.mk (fun g2a => ?_) (fun g2a => ?_) <;> (conv => whnf)
        · refine VCmp.mk (fun g2b => ?_) (fun g2b => ?_) <;> (conv => whnf)
          · have hn : cls c = 4 := by
              unfold cls
              (repeat' split) <;> first | rfl | (exfalso; omega)
            unfold refR at hR
            rw [hn] at hR
            (conv => whnf)
            refine VRes.maskNat (N := c) (k := 3) rfl rfl (by omega) (by omega) ?_
            (conv => whnf)
            refine VCmp.mk (fun h => absurd h (by omega)) (fun _ => ?_); (conv => whnf)
            rw [hszl]
            refine VCmp.mk (fun hlen => ?_) (fun hlen => ?_) <;> (conv => whnf)
            · rw [if_pos (Or.inr (by omega))] at hR
              subst hR
              exact ⟨rfl, Keep.refl _ _⟩
            rw [if_neg (by omega)] at hR
            have hx0 : c % 2 ^ 3 < 32 := by have := Nat.mod_lt c (show 0 < 2 ^ 3 by decide); omega
            refine VLoop.by_ tt_ok (S := Nat) (fun m => [(0, .string (sb l)), (5, .int .i64 4), (6, .int .i64 (yK (c % 2 ^ 3) l m : Nat)), (7, .int .i64 ((m + 1 : Nat) : Int))])
              (fun m w' => m + 1 ≤ 4 ∧ (∀ j, 1 ≤ j → j < m + 1 → (l.getD j 0).toNat / 64 = 2) ∧ w' = w) (fun m => 4 - m) 0
              ⟨rfl, rfl, rfl, rfl, trivial⟩ ⟨by omega, fun j h1 h2 => by omega, rfl⟩ ?_
            rintro m w' ⟨hm, hcont, rfl⟩
            (conv => whnf)
            refine VCmp.mk (fun h => ?_) (fun h => ?_) <;> (conv => whnf)
            · have hlt := yK_lt hx0 l m
              have hp : 64 ^ m ≤ 64 ^ 3 := Nat.pow_le_pow_right (by omega) (by omega)
              have hb8 := (l.getD (m + 1) 0).toNat_lt
              refine VIdxS.sb (m + 1) rfl (by omega) ?_
              (conv => whnf)
              refine VRes.top2 (x := l.getD (m + 1) 0) rfl rfl ?_
              (conv => whnf)
              refine VCmp.mk (fun h2 => ?_) (fun h2 => ?_) <;> (conv => whnf)
              · have hnc : ¬ contOf 4 b1 b2 b3 := by
                  intro hc
                  obtain ⟨e1, e2, e3⟩ := hc
                  apply h2
                  have : (l.getD (m + 1) 0).toNat / 64 = 2 := by
                    have hm3 : m = 0 ∨ m = 1 ∨ m = 2 := by omega
                    rcases hm3 with rfl | rfl | rfl
                    · rw [← q1]; exact e1
                    · rw [← q2]; exact e2 (by omega)
                    · rw [← q3]; exact e3 (by omega)
                  omega
                rw [if_pos hnc] at hR
                subst hR
                exact ⟨rfl, Keep.refl _ _⟩
              refine VReq.mk (by omega) ?_
              refine VRes.shlNat (N := yK (c % 2 ^ 3) l m) (s := 6) rfl rfl (by omega) (by omega) ?_
              (conv => whnf)
              refine VIdxS.sb (m + 1) rfl (by omega) ?_
              (conv => whnf)
              refine VRes.mask8 (x := (l.getD (m + 1) 0).toNat) (k := 6) rfl (by omega) rfl (by omega) ?_
              (conv => whnf)
              refine VRes.i64 (by omega) ?_
              (conv => whnf)
              refine VRes.orNat (N := yK (c % 2 ^ 3) l m * 2 ^ 6) (M := (l.getD (m + 1) 0).toNat % 2 ^ 6) rfl rfl (by omega) (by omega) (or_add' (x := yK (c % 2 ^ 3) l m) (k := 6) rfl (by omega)) ?_
              (conv => whnf)
              refine VRes.i64 (by omega) ?_; (conv => whnf)
              refine ⟨m + 1, ⟨rfl, rfl, rfl, rfl, trivial⟩, ⟨by omega, fun j h1 h3 => ?_, rfl⟩, by omega⟩
              by_cases hj : j < m + 1
              · exact hcont j h1 hj
              · obtain rfl : j = m + 1 := by omega
                omega
            obtain rfl : m = 3 := by omega
            have hct : contOf 4 b1 b2 b3 := by
              refine ⟨by rw [q1]; exact hcont 1 (by omega) (by omega), fun h3 => by rw [q2]; exact hcont 2 (by omega) (by omega), fun h4 => by rw [q3]; exact hcont 3 (by omega) (by omega)⟩
            rw [if_neg (fun h => h hct)] at hR
            have hy : yK (c % 2 ^ 3) l 3 = xOf 4 c b1 b2 b3 := by
              unfold xOf
              simp only [yK]
              rw [q1, q2, q3]
              simp
              try omega
            rw [hy]
            have hxb : xOf 4 c b1 b2 b3 ≤ 2097151 := by
              unfold xOf
              simp
              omega
            have hle : leastOf 4 = 65536 := rfl
            rw [hle] at hR
            obtain ⟨x, hx⟩ : ∃ x, x = xOf 4 c b1 b2 b3 := ⟨_, rfl⟩
            rw [← hx] at hR hxb
            rw [← hx]
            refine VFill.by_ rfl ?_; (conv => whnf)
            refine ⟨fun w1 hb k1 => ?_⟩
            (conv => whnf)
            refine VIdx.one 4 rfl (by omega) rfl ?_
            (conv => whnf)
            refine VLoad.by_ (hb.cell 4) ?_
            (conv => whnf)
            refine VCmp.mk (fun g1 => ?_) (fun g1 => ?_) <;> (conv => whnf)
            · rw [if_pos (Or.inl (by omega))] at hR
              subst hR
              exact ⟨rfl, k1⟩
            refine VCmp.mk (fun g2 => ?_) (fun g2 => ?_) <;> (conv => whnf)
            · rw [if_pos (Or.inr (Or.inl (by omega)))] at hR
              subst hR
              exact ⟨rfl, k1⟩
            refine VCmp.mk (fun g3 => ?_) (fun g3 => ?_) <;> (conv => whnf)
            · refine VCmp.mk (fun g4 => ?_) (fun g4 => ?_) <;> (conv => whnf)
              · rw [if_pos (Or.inr (Or.inr (by omega)))] at hR
                subst hR
                exact ⟨rfl, k1⟩
              · rw [if_neg (by omega)] at hR
                subst hR
                exact ⟨rfl, k1⟩
            · rw [if_neg (by omega)] at hR
              subst hR
              exact ⟨rfl, k1⟩
          · have hn : cls c = 0 := by
              unfold cls
              (repeat' split) <;> first | rfl | (exfalso; omega)
            unfold refR at hR
            rw [hn, if_pos (Or.inl rfl)] at hR
            refine VCmp.mk (fun _ => ?_) (fun h => absurd h (by omega)); (conv => whnf)
            subst hR
            exact ⟨rfl, Keep.refl _ _⟩
        · have hn : cls c = 0 := by
            unfold cls
            (repeat' split) <;> first | rfl | (exfalso; omega)
          unfold refR at hR
          rw [hn, if_pos (Or.inl rfl)] at hR
          refine VCmp.mk (fun _ => ?_) (fun h => absurd h (by omega)); (conv => whnf)
          subst hR
          exact ⟨rfl, Keep.refl _ _⟩
    · refine VCmp.mk (fun g2a => ?_) (fun g2a => ?_) <;> (conv => whnf)
      · refine VCmp.mk (fun g2b => ?_) (fun g2b => ?_) <;> (conv => whnf)
        · have hn : cls c = 4 := by
            unfold cls
            (repeat' split) <;> first | rfl | (exfalso; omega)
          unfold refR at hR
          rw [hn] at hR
          (conv => whnf)
          refine VRes.maskNat (N := c) (k := 3) rfl rfl (by omega) (by omega) ?_
          (conv => whnf)
          refine VCmp.mk (fun h => absurd h (by omega)) (fun _ => ?_); (conv => whnf)
          rw [hszl]
          refine VCmp.mk (fun hlen => ?_) (fun hlen => ?_) <;> (conv => whnf)
          · rw [if_pos (Or.inr (by omega))] at hR
            subst hR
            exact ⟨rfl, Keep.refl _ _⟩
          rw [if_neg (by omega)] at hR
          have hx0 : c % 2 ^ 3 < 32 := by have := Nat.mod_lt c (show 0 < 2 ^ 3 by decide); omega
          refine VLoop.by_ tt_ok (S := Nat) (fun m => [(0, .string (sb l)), (5, .int .i64 4), (6, .int .i64 (yK (c % 2 ^ 3) l m : Nat)), (7, .int .i64 ((m + 1 : Nat) : Int))])
            (fun m w' => m + 1 ≤ 4 ∧ (∀ j, 1 ≤ j → j < m + 1 → (l.getD j 0).toNat / 64 = 2) ∧ w' = w) (fun m => 4 - m) 0
            ⟨rfl, rfl, rfl, rfl, trivial⟩ ⟨by omega, fun j h1 h2 => by omega, rfl⟩ ?_
          rintro m w' ⟨hm, hcont, rfl⟩
          (conv => whnf)
          refine VCmp.mk (fun h => ?_) (fun h => ?_) <;> (conv => whnf)
          · have hlt := yK_lt hx0 l m
            have hp : 64 ^ m ≤ 64 ^ 3 := Nat.pow_le_pow_right (by omega) (by omega)
            have hb8 := (l.getD (m + 1) 0).toNat_lt
            refine VIdxS.sb (m + 1) rfl (by omega) ?_
            (conv => whnf)
            refine VRes.top2 (x := l.getD (m + 1) 0) rfl rfl ?_
            (conv => whnf)
            refine VCmp.mk (fun h2 => ?_) (fun h2 => ?_) <;> (conv => whnf)
            · have hnc : ¬ contOf 4 b1 b2 b3 := by
                intro hc
                obtain ⟨e1, e2, e3⟩ := hc
                apply h2
                have : (l.getD (m + 1) 0).toNat / 64 = 2 := by
                  have hm3 : m = 0 ∨ m = 1 ∨ m = 2 := by omega
                  rcases hm3 with rfl | rfl | rfl
                  · rw [← q1]; exact e1
                  · rw [← q2]; exact e2 (by omega)
                  · rw [← q3]; exact e3 (by omega)
                omega
              rw [if_pos hnc] at hR
              subst hR
              exact ⟨rfl, Keep.refl _ _⟩
            refine VReq.mk (by omega) ?_
            refine VRes.shlNat (N := yK (c % 2 ^ 3) l m) (s := 6) rfl rfl (by omega) (by omega) ?_
            (conv => whnf)
            refine VIdxS.sb (m + 1) rfl (by omega) ?_
            (conv => whnf)
            refine VRes.mask8 (x := (l.getD (m + 1) 0).toNat) (k := 6) rfl (by omega) rfl (by omega) ?_
            (conv => whnf)
            refine VRes.i64 (by omega) ?_
            (conv => whnf)
            refine VRes.orNat (N := yK (c % 2 ^ 3) l m * 2 ^ 6) (M := (l.getD (m + 1) 0).toNat % 2 ^ 6) rfl rfl (by omega) (by omega) (or_add' (x := yK (c % 2 ^ 3) l m) (k := 6) rfl (by omega)) ?_
            (conv => whnf)
            refine VRes.i64 (by omega) ?_; (conv => whnf)
            refine ⟨m + 1, ⟨rfl, rfl, rfl, rfl, trivial⟩, ⟨by omega, fun j h1 h3 => ?_, rfl⟩, by omega⟩
            by_cases hj : j < m + 1
            · exact hcont j h1 hj
            · obtain rfl : j = m + 1 := by omega
              omega
          obtain rfl : m = 3 := by omega
          have hct : contOf 4 b1 b2 b3 := by
            refine ⟨by rw [q1]; exact hcont 1 (by omega) (by omega), fun h3 => by rw [q2]; exact hcont 2 (by omega) (by omega), fun h4 => by rw [q3]; exact hcont 3 (by omega) (by omega)⟩
          rw [if_neg (fun h => h hct)] at hR
          have hy : yK (c % 2 ^ 3) l 3 = xOf 4 c b1 b2 b3 := by
            unfold xOf
            simp only [yK]
            rw [q1, q2, q3]
            simp
            try omega
          rw [hy]
          have hxb : xOf 4 c b1 b2 b3 ≤ 2097151 := by
            unfold xOf
            simp
            omega
          have hle : leastOf 4 = 65536 := rfl
          rw [hle] at hR
          obtain ⟨x, hx⟩ : ∃ x, x = xOf 4 c b1 b2 b3 := ⟨_, rfl⟩
          rw [← hx] at hR hxb
          rw [← hx]
          refine VFill.by_ rfl ?_; (conv => whnf)
          refine ⟨fun w1 hb k1 => ?_⟩
          (conv => whnf)
          refine VIdx.one 4 rfl (by omega) rfl ?_
          (conv => whnf)
          refine VLoad.by_ (hb.cell 4) ?_
          (conv => whnf)
          refine VCmp.mk (fun g1 => ?_) (fun g1 => ?_) <;> (conv => whnf)
          · rw [if_pos (Or.inl (by omega))] at hR
            subst hR
            exact ⟨rfl, k1⟩
          refine VCmp.mk (fun g2 => ?_) (fun g2 => ?_) <;> (conv => whnf)
          · rw [if_pos (Or.inr (Or.inl (by omega)))] at hR
            subst hR
            exact ⟨rfl, k1⟩
          refine VCmp.mk (fun g3 => ?_) (fun g3 => ?_) <;> (conv => whnf)
          · refine VCmp.mk (fun g4 => ?_) (fun g4 => ?_) <;> (conv => whnf)
            · rw [if_pos (Or.inr (Or.inr (by omega)))] at hR
              subst hR
              exact ⟨rfl, k1⟩
            · rw [if_neg (by omega)] at hR
              subst hR
              exact ⟨rfl, k1⟩
          · rw [if_neg (by omega)] at hR
            subst hR
            exact ⟨rfl, k1⟩
        · have hn : cls c = 0 := by
            unfold cls
            (repeat' split) <;> first | rfl | (exfalso; omega)
          unfold refR at hR
          rw [hn, if_pos (Or.inl rfl)] at hR
          refine VCmp.mk (fun _ => ?_) (fun h => absurd h (by omega)); (conv => whnf)
          subst hR
          exact ⟨rfl, Keep.refl _ _⟩
      · have hn : cls c = 0 := by
          unfold cls
          (repeat' split) <;> first | rfl | (exfalso; omega)
        unfold refR at hR
        rw [hn, if_pos (Or.inl rfl)] at hR
        refine VCmp.mk (fun _ => ?_) (fun h => absurd h (by omega)); (conv => whnf)
        subst hR
        exact ⟨rfl, Keep.refl _ _⟩

set_option maxHeartbeats 1000000 in
theorem refUnits_ok (w : World) (l : List UInt8) (hmax : l.length ≤ 100000) :
    VC Tryd.prog 14 [.string (sb l)] w (fun v w' => (if unitsE l = 0 then ∃ A c, v = .tuple #[.slice A (hashB l).length c, .int .i64 0] ∧ Sl w' 1 A (hashB l).length ((hashB l).map vb) else v = .tuple #[.slice none 0 0, .int .i64 (unitsE l : Nat)]) ∧ Keep No w w') := by
  refine VC.of tt_ok Tryd.func14 rfl (by decide +kernel) (Nat.le_of_ble_eq_true rfl) ?_; (conv => whnf)
  refine VLoop.by_ tt_ok (S := Nat × Nat × List Nat × Option Addr × Nat) (fun | (k, i, us, A, c) => [(0, .string (sb l)), (4, .slice A (2 * us.length) c), (5, .int .i64 i)])
    (fun | (k, i, us, A, c) => fun w' => i ≤ l.length ∧ l.length - i ≤ k ∧ unitsF l.length l = (unitsF k (l.drop i)).map (us ++ ·) ∧ us.length ≤ 2 * i ∧ Own w' w.heap.size T8 1 A (2 * us.length) c ((unitsB us).map vb) ∧ Keep No w w') (fun | (_, i, _) => l.length - i)
    (l.length, 0, [], none, 0) ⟨rfl, rfl, rfl, trivial⟩ ⟨by omega, by omega, by simp, by simp, Own.nil _ _ _ _, Keep.refl _ _⟩ ?_
  rintro ⟨k, i, us, A, c⟩ w' ⟨hi, hk, hun, hul, hown, kp⟩
  (conv => whnf)
  rw [sb_size]
  refine VCmp.mk (fun h => ?_) (fun h => ?_) <;> (conv => whnf)
  rotate_left 1
  · rw [unitsF_nil k _ (by rw [List.length_drop]; omega)] at hun
    have hun : unitsF l.length l = some us := by simpa using hun
    have hB : hashB l = unitsB us := by unfold hashB; rw [hun]; rfl
    refine VCmp.mk (fun h2 => ?_) (fun h2 => ?_) <;> (conv => whnf)
    · have e3 : unitsE l = 3 := by unfold unitsE; rw [hun]; show (if _ then _ else _) = _; rw [if_pos (by omega)]
      rw [e3, if_neg (by omega)]
      exact ⟨rfl, kp⟩
    · have e0 : unitsE l = 0 := by unfold unitsE; rw [hun]; show (if _ then _ else _) = _; rw [if_neg (by omega)]
      rw [e0, if_pos rfl, hB, unitsB_len]
      exact ⟨⟨A, c, rfl, Sl.ofOwn hown⟩, kp⟩
  refine VCutS.sb i l.length rfl (by rw [sb_size]) (by omega) (by omega) ?_
  rw [List.take_of_length_le (Nat.le_refl _)]
  obtain ⟨r, hr⟩ : ∃ r, r = l.drop i := ⟨_, rfl⟩
  have hrl : r.length = l.length - i := by rw [hr, List.length_drop]
  rw [← hr] at hun
  rw [← hr]
  have hr0 : 0 < r.length := by omega
  (conv => whnf)
  refine (letter_ok w' r hr0 (by omega)).mono ?_
  rintro v w1 ⟨rfl, k1⟩
  have kp := kp.keepNo k1; have hown := hown.keepNo k1
  obtain ⟨hd1, hd2⟩ := decP_size r hr0
  have hd3 := decP_le r
  by_cases hb : decBad r
  · have e : refP r = (0, 0) := by unfold refP; rw [if_pos hb]
    rw [unitsF_bad (by omega) hr0 hb] at hun
    have e4 : unitsE l = 4 := by unfold unitsE; rw [hun]; rfl
    rw [e]
    (conv => whnf)
    refine VCmp.mk (fun _ => ?_) (fun h => absurd h (by omega)); (conv => whnf)
    rw [e4, if_neg (by omega)]
    exact ⟨rfl, kp⟩
  have e : refP r = decP r := by unfold refP; rw [if_neg hb]
  rw [e]
  have hstep := unitsF_step (k := k) (by omega) hr0 hb
  obtain ⟨rn, hrn⟩ : ∃ x, x = (decP r).1 := ⟨_, rfl⟩
  obtain ⟨sz, hsz⟩ : ∃ x, x = (decP r).2 := ⟨_, rfl⟩
  rw [← hrn, ← hsz] at hstep
  rw [← hsz] at hd1 hd2
  rw [← hrn] at hd3
  rw [← hrn, ← hsz]
  have fin : unitsF l.length l = (unitsF (k - 1) (l.drop (i + sz))).map ((us ++ rune16 rn) ++ ·) := by
    rw [hun, hstep, Option.map_map, hr, List.drop_drop]
    congr 1
    funext x
    simp
  (conv => whnf)
  refine VCmp.mk (fun h => absurd h (by omega)) (fun _ => ?_); (conv => whnf)
  refine VRes.i64 (by omega) ?_; (conv => whnf)
  refine VCmp.mk (fun hb2 => ?_) (fun hb2 => ?_) <;> (conv => whnf)
  · obtain ⟨a, ha⟩ : ∃ a, a = 55296 + (rn - 65536) / 1024 := ⟨_, rfl⟩
    obtain ⟨b, hbb⟩ : ∃ b, b = 56320 + (rn - 65536) % 1024 := ⟨_, rfl⟩
    have e16 : rune16 rn = [a, b] := by unfold rune16; rw [if_pos (by omega), ha, hbb]
    have q1 : (55296 : Int) + ((rn : Int) - 65536).tdiv 1024 = (a : Int) := by rw [Int.tdiv_eq_ediv_of_nonneg (by omega)]; omega
    have q2 : ((rn : Int) - 65536).tmod 1024 = (((rn - 65536) % 1024 : Nat) : Int) := by rw [Int.tmod_eq_emod_of_nonneg (by omega)]; omega
    refine VRes.i64 (by omega) ?_; (conv => whnf)
    refine VReq.mk (by omega) ?_
    refine VRes.i64 (by omega) ?_
    (conv => whnf)
    rw [q1]
    refine VRes.i64 (by omega) ?_; (conv => whnf)
    refine VRes.i64 (by omega) ?_; (conv => whnf)
    refine VReq.mk (by omega) ?_
    refine VRes.to (congrArg (Value.int .i64) q2) ?_
    (conv => whnf)
    rw [show (56320 : Int) + (((rn - 65536) % 1024 : Nat) : Int) = ((b : Nat) : Int) from by omega]
    refine VRes.i64 (by omega) ?_; (conv => whnf)
    refine VRes.byte (N := a) rfl ?_
    (conv => whnf)
    refine VReq.mk (by omega) ?_
    refine VRes.shrN (k := .i64) (N := a) (s := 8) rfl rfl (by decide) ?_
    (conv => whnf)
    refine VRes.byte (N := a / 2 ^ 8) rfl ?_
    (conv => whnf)
    refine VRes.byte (N := b) rfl ?_
    (conv => whnf)
    refine VReq.mk (by omega) ?_
    refine VRes.shrN (k := .i64) (N := b) (s := 8) rfl rfl (by decide) ?_
    (conv => whnf)
    refine VRes.byte (N := b / 2 ^ 8) rfl ?_
    (conv => whnf)
    refine VFill.by_ rfl ?_; (conv => whnf)
    refine ⟨fun w3 hb3 k3 => ?_⟩
    (conv => whnf)
    refine appBd (w0 := w) (ys := unitsB [a, b]) (kp.trans k3) (hown.keepNo k3) (Sl.ofBlk (n := 4) (size := 1) hb3 rfl) (by omega) ?_
    intro A4 c4 w4 ho4 k4 _
    (conv => whnf)
    exact ⟨(k - 1, i + sz, us ++ rune16 rn, A4, c4), ⟨rfl, by rw [List.length_append, e16]; rfl, rfl, trivial⟩, ⟨by omega, by omega, fin, by rw [List.length_append, e16]; show us.length + 2 ≤ _; omega, by rw [List.length_append, e16, unitsB_append]; exact ho4, k4⟩, by dsimp only; omega⟩
  · have e16 : rune16 rn = [rn] := by unfold rune16; rw [if_neg (by omega)]
    refine VRes.byte (N := rn) rfl ?_
    (conv => whnf)
    refine VReq.mk (by omega) ?_
    refine VRes.shrN (k := .i64) (N := rn) (s := 8) rfl rfl (by decide) ?_
    (conv => whnf)
    refine VRes.byte (N := rn / 2 ^ 8) rfl ?_
    (conv => whnf)
    refine VFill.by_ rfl ?_; (conv => whnf)
    refine ⟨fun w3 hb3 k3 => ?_⟩
    (conv => whnf)
    refine appBd (w0 := w) (ys := unitsB [rn]) (kp.trans k3) (hown.keepNo k3) (Sl.ofBlk (n := 2) (size := 1) hb3 rfl) (by omega) ?_
    intro A4 c4 w4 ho4 k4 _
    (conv => whnf)
    exact ⟨(k - 1, i + sz, us ++ rune16 rn, A4, c4), ⟨rfl, by rw [List.length_append, e16]; rfl, rfl, trivial⟩, ⟨by omega, by omega, fin, by rw [List.length_append, e16]; show us.length + 1 ≤ _; omega, by rw [List.length_append, e16, unitsB_append]; exact ho4, k4⟩, by dsimp only; omega⟩

theorem refHash_ok (w : World) (l : List UInt8) (hmax : l.length ≤ 100000) :
    VC Tryd.prog 8 [.string (sb l)] w (fun v w' => (if unitsE l = 0 then ∃ A c, v = .tuple #[.slice A 16 c, .int .i64 0] ∧ Sl w' 1 A 16 ((Md.md4 (hashB l)).map vb) else v = .tuple #[.slice none 0 0, .int .i64 (unitsE l : Nat)]) ∧ Keep No w w') := by
  have hle : unitsE l = 0 → (hashB l).length ≤ 512 := by
    intro h
    unfold unitsE at h
    unfold hashB
    cases hu : unitsF l.length l with
    | none => rw [hu] at h; cases h
    | some us =>
      rw [hu] at h
      have h : (if 256 < us.length then 3 else 0) = 0 := h
      have : ¬ 256 < us.length := fun hh => by rw [if_pos hh] at h; cases h
      show (unitsB us).length ≤ 512
      rw [unitsB_len]; omega
  refine VC.of tt_ok Tryd.func8 rfl (by decide +kernel) (Nat.le_of_ble_eq_true rfl) ?_; (conv => whnf)
  refine (refUnits_ok w l hmax).mono ?_
  rintro v w1 ⟨hv, kp⟩
  by_cases h0 : unitsE l = 0
  · have hl5 := hle h0
    rw [if_pos h0] at hv
    obtain ⟨A, c, rfl, hs⟩ := hv
    (conv => whnf)
    refine VCmp.mk (fun h => absurd rfl h) (fun _ => ?_); (conv => whnf)
    refine (Md.refMd4_ok w1 hs (by omega)).mono ?_
    rintro v w2 ⟨A2, c2, rfl, ho2, k2⟩
    (conv => whnf)
    rw [if_pos h0]
    exact ⟨⟨A2, c2, rfl, Sl.ofOwn ho2⟩, kp.trans k2⟩
  · rw [if_neg h0] at hv
    subst hv
    (conv => whnf)
    refine VCmp.mk (fun _ => ?_) (fun h => absurd h (by omega)); (conv => whnf)
    rw [if_neg h0]
    exact ⟨rfl, kp⟩

theorem awake9_ok (w : World) (hw : LawOk w) : VC Tryd.prog 6 [] w (fun v w' => v = .bool true ∧ Keep No w w') := by
  refine VC.of tt_ok Tryd.func6 rfl (by decide +kernel) (Nat.le_of_ble_eq_true rfl) ?_; (conv => whnf)
  refine (Hash_ok w hw [0x63, 0x6c, 0x69, 0x65, 0x6e, 0x74, 0x50, 0x61, 0x73, 0x73] (by decide)).mono ?_
  rintro v w1 ⟨hv, kp⟩
  have e0 : unitsE [0x63, 0x6c, 0x69, 0x65, 0x6e, 0x74, 0x50, 0x61, 0x73, 0x73] = 0 := by decide +kernel
  have eh : Md.md4 (hashB [0x63, 0x6c, 0x69, 0x65, 0x6e, 0x74, 0x50, 0x61, 0x73, 0x73]) = [0x44, 0xeb, 0xba, 0x8d, 0x53, 0x12, 0xb8, 0xd6, 0x11, 0x47, 0x44, 0x11, 0xf5, 0x69, 0x89, 0xae] := by decide +kernel
  rw [if_pos e0, eh] at hv
  obtain ⟨A, c, rfl, hs, hc⟩ := hv
  (conv => whnf)
  refine VCmp.mk (fun _ => ?_) (fun h => absurd rfl h); (conv => whnf)
  refine VCmp.mk (fun _ => ?_) (fun h => absurd rfl h); (conv => whnf)
  refine VIdx.sl (hs) (0) (by first | rfl | omega) (by omega) (fun b_ o_ hA_ hc_ => ?_); (conv => whnf); refine VLoad.by_ hc_ ?_; (conv => whnf)
  refine VCmp.mk (fun _ => ?_) (fun h => absurd rfl h); (conv => whnf)
  refine VIdx.sl (hs) (15) (by first | rfl | omega) (by omega) (fun b_ o_ hA_ hc_ => ?_); (conv => whnf); refine VLoad.by_ hc_ ?_; (conv => whnf)
  refine VCmp.mk (fun _ => ?_) (fun h => absurd rfl h); (conv => whnf)
  exact ⟨rfl, kp⟩
end Go.Proofs.YtoeijgbjgbgelaaDoor
