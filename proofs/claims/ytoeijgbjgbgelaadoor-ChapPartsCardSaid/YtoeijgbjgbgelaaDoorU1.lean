/-
  unicode/utf8: the first rune of a string, and how many bytes it has.
-/
import Derived.Test.YtoeijgbjgbgelaaDoorLc
namespace Go.Proofs.YtoeijgbjgbgelaaDoor
open Go V

theorem sb_get (l : List UInt8) (j : Nat) : (sb l)[j]? = l[j]? := by
  unfold sb
  by_cases h : j < l.length
  · rw [List.getElem?_eq_getElem h, getElem?_pos _ _ (by simpa [ByteArray.size] using h)]
    simp [ByteArray.getElem_eq_getElem_data]
  · rw [List.getElem?_eq_none (by omega), getElem?_neg _ _ (by simpa [ByteArray.size] using h)]
theorem sb_cut (l : List UInt8) (a b : Nat) (h : a ≤ b) : (sb l).extract a b = sb ((l.take b).drop a) := by
  unfold sb
  apply ByteArray.ext
  rw [ByteArray.data_extract]
  simp [List.take_drop]
  rw [show a + (b - a) = b from by omega]
theorem VIdxS.sb {l : List UInt8} {i : Int} {K : Value → Prop} (j : Nat) (hj : (j : Int) = i) (hn : j < l.length) (hK : K (.int .u8 ((l.getD j 0).toNat : Nat))) : VIdxS (sb l) i K :=
  ⟨j, l.getD j 0, hj, by rw [sb_get, List.getD_eq_getElem?_getD, List.getElem?_eq_getElem hn]; rfl, hK⟩
theorem VCutS.sb {l : List UInt8} {a b : Int} {K : Value → Prop} (a' b' : Nat) (ha : (a' : Int) = a) (hb : (b' : Int) = b) (h1 : a' ≤ b') (h2 : b' ≤ l.length) (hK : K (.string (sb ((l.take b').drop a')))) : VCutS (sb l) a b K :=
  ⟨a', b', ha, hb, h1, by rw [sb_size]; exact h2, fun x hx => by rw [hx, sb_cut l a' b' h1]; exact hK⟩

theorem VRes.raw {v : Value} {K : Value → Prop} (h : K v) : VRes v K := ⟨h⟩
theorem VIdxA.mk2 {ad : Addr} {n size : Nat} {i : Int} {K : Addr → Prop} (j : Nat) (hj : (j : Int) = i) (hn : j < n) (hK : K ⟨ad.block, ad.off + j * size, none⟩) (hs : ad.spot = none := by rfl) : VIdxA ad n i size K := ⟨⟨j, hs, hj, hn, hK⟩⟩
/-- Of a first byte from 128 on: how many bytes there are, and what the second one may be. -/
def decS (c : Nat) : Nat × Nat × Nat :=
  if c < 194 then (0, 0, 0) else if c ≤ 223 then (2, 128, 191) else if c = 224 then (3, 160, 191) else if c = 237 then (3, 128, 159) else if c ≤ 239 then (3, 128, 191)
  else if c = 240 then (4, 144, 191) else if c ≤ 243 then (4, 128, 191) else if c = 244 then (4, 128, 143) else (0, 0, 0)
def decR (n c b1 b2 b3 : Nat) : Nat × Nat :=
  if (decS c).1 = 0 ∨ n < (decS c).1 then (65533, 1)
  else if b1 < (decS c).2.1 ∨ (decS c).2.2 < b1 then (65533, 1)
  else if (decS c).1 = 2 then (c % 32 * 64 + b1 % 64, 2)
  else if b2 < 128 ∨ 191 < b2 then (65533, 1)
  else if (decS c).1 = 3 then (c % 16 * 4096 + b1 % 64 * 64 + b2 % 64, 3)
  else if b3 < 128 ∨ 191 < b3 then (65533, 1)
  else (c % 8 * 262144 + b1 % 64 * 4096 + b2 % 64 * 64 + b3 % 64, 4)
/-- The first rune of bytes, and its size. -/
def decP (l : List UInt8) : Nat × Nat :=
  if (l.getD 0 0).toNat < 128 then ((l.getD 0 0).toNat, 1) else decR l.length (l.getD 0 0).toNat (l.getD 1 0).toNat (l.getD 2 0).toNat (l.getD 3 0).toNat
theorem decR_size (n c b1 b2 b3 : Nat) (hn : 0 < n) : 1 ≤ (decR n c b1 b2 b3).2 ∧ (decR n c b1 b2 b3).2 ≤ n := by
  unfold decR
  repeat' split
  all_goals first | (simp; omega) | skip
  all_goals
    have : (decS c).1 = 0 ∨ (decS c).1 = 2 ∨ (decS c).1 = 3 ∨ (decS c).1 = 4 := by
      unfold decS
      repeat' split
      all_goals simp
    simp_all
    try omega
theorem decP_size (l : List UInt8) (hn : 0 < l.length) : 1 ≤ (decP l).2 ∧ (decP l).2 ≤ l.length := by
  unfold decP
  split
  · simp; omega
  · exact decR_size _ _ _ _ _ hn
theorem decR_le (n c b1 b2 b3 : Nat) (hc : c < 256) (h1 : b1 < 256) (h2 : b2 < 256) (h3 : b3 < 256) : (decR n c b1 b2 b3).1 ≤ 2097151 := by
  unfold decR
  repeat' split
  all_goals simp
  all_goals omega
theorem decP_le (l : List UInt8) : (decP l).1 ≤ 2097151 := by
  unfold decP
  split
  · simp only; omega
  · exact decR_le _ _ _ _ _ (UInt8.toNat_lt _) (UInt8.toNat_lt _) (UInt8.toNat_lt _) (UInt8.toNat_lt _)

/-! ### Arithmetic on 32 bits -/
theorem wrap_i32 {e : Int} (h : 0 ≤ e ∧ e < 2147483648) : IntKind.wrap .i32 e = e := by
  unfold IntKind.wrap
  simp only [IntKind.signed, IntKind.bits]
  have : e % 4294967296 = e := Int.emod_eq_of_lt h.1 (by omega)
  simp [this]
  omega
theorem VRes.i32 {e : Int} {K : Value → Prop} (h : 0 ≤ e ∧ e < 2147483648) (hK : K (.int .i32 e)) : VRes (.int .i32 (IntKind.wrap .i32 e)) K := ⟨by rw [wrap_i32 h]; exact hK⟩
theorem VRes.shl32i {N s : Nat} {a l : Int} {K : Value → Prop} (ha : a = (N : Int)) (hl : l = (s : Int)) (hs : s ≤ 32) (hR : N * 2 ^ s < 2147483648) (hK : K (.int .i32 ((N * 2 ^ s : Nat) : Int))) :
    VRes (.int .i32 (IntKind.wrap .i32 (a * 2 ^ (min l.toNat (IntKind.bits .i32))))) K := by
  subst ha; subst hl
  refine VRes.to (congrArg (Value.int .i32) ?_) hK
  have e : min (Int.toNat (s : Int)) (IntKind.bits .i32) = s := by
    have : IntKind.bits .i32 = 32 := rfl
    rw [this, Int.toNat_natCast]; omega
  rw [e]
  have e2 : (N : Int) * 2 ^ s = ((N * 2 ^ s : Nat) : Int) := by simp
  rw [e2]
  exact wrap_i32 (by omega)
theorem VRes.or32i {N M R : Nat} {a l : Int} {K : Value → Prop} (ha : a = (N : Int)) (hl : l = (M : Int)) (hN : N < 2 ^ 31) (hM : M < 2 ^ 31) (hR : N ||| M = R) (hK : K (.int .i32 (R : Int))) :
    VRes (.int .i32 (IntKind.wrap .i32 ((BitVec.ofInt (IntKind.bits .i32) a ||| BitVec.ofInt (IntKind.bits .i32) l).toNat : Int))) K := by
  subst ha; subst hl; subst hR
  refine VRes.to (congrArg (Value.int .i32) ?_) hK
  show IntKind.wrap .i32 ((BitVec.ofInt 32 (N : Int) ||| BitVec.ofInt 32 (M : Int)).toNat : Int) = _
  rw [BitVec.ofInt_natCast, BitVec.ofInt_natCast, BitVec.toNat_or, BitVec.toNat_ofNat, BitVec.toNat_ofNat, Nat.mod_eq_of_lt (by omega), Nat.mod_eq_of_lt (by omega)]
  have := Nat.or_lt_two_pow hN hM
  exact wrap_i32 (by omega)
/-- The lowest bits of a byte. -/
theorem VRes.mask8 {x k : Nat} {a l : Int} {K : Value → Prop} (ha : a = (x : Int)) (hk : k ≤ 8) (hl : l = ((2 ^ k - 1 : Nat) : Int)) (hx : x < 256) (hK : K (.int .u8 ((x % 2 ^ k : Nat) : Int))) :
    VRes (.int .u8 (IntKind.wrap .u8 ((BitVec.ofInt (IntKind.bits .u8) a &&& BitVec.ofInt (IntKind.bits .u8) l).toNat : Int))) K := by
  subst ha; subst hl
  refine VRes.to (congrArg (Value.int .u8) ?_) hK
  show IntKind.wrap .u8 ((BitVec.ofInt 8 (x : Int) &&& BitVec.ofInt 8 ((2 ^ k - 1 : Nat) : Int)).toNat : Int) = _
  have hp : 2 ^ k ≤ 2 ^ 8 := Nat.pow_le_pow_right (by omega) hk
  rw [BitVec.ofInt_natCast, BitVec.ofInt_natCast, BitVec.toNat_and, BitVec.toNat_ofNat, BitVec.toNat_ofNat, Nat.mod_eq_of_lt (by omega), Nat.mod_eq_of_lt (by omega), Nat.and_two_pow_sub_one_eq_mod, wrap_nat8, Nat.mod_eq_of_lt (by have := Nat.mod_le x (2 ^ k); omega)]
theorem or_add {x k N M : Nat} (hN : N = x * 2 ^ k) (hM : M < 2 ^ k) : N ||| M = N + M := by
  subst hN
  have := Nat.shiftLeft_add_eq_or_of_lt (a := x) (b := M) (i := k) hM
  rw [Nat.shiftLeft_eq] at this
  exact this.symm

/-! ### The table's classes -/
def firstF (c : Nat) : Nat :=
  if c < 194 then 241 else if c ≤ 223 then 2 else if c = 224 then 19 else if c = 237 then 35 else if c ≤ 239 then 3
  else if c = 240 then 52 else if c ≤ 243 then 4 else if c = 244 then 68 else 241
theorem firstF_ok : ∀ c, 128 ≤ c → c < 256 → Go.Pinned.utf8FirstZ.getD c 0 = firstF c := by
  have h : ((List.range 256).all fun c => decide (c < 128) || Go.Pinned.utf8FirstZ.getD c 0 == firstF c) = true := by decide +kernel
  intro c h1 h2
  have := List.all_eq_true.1 h c (List.mem_range.2 h2)
  have h3 : ¬ c < 128 := by omega
  simpa [h3] using this

set_option maxHeartbeats 2000000 in
theorem decSlow_ok (w : World) (hu : U8Ok w) (l : List UInt8) (hl : 0 < l.length) (hmax : l.length ≤ 1000000) (h128 : ¬ (l.getD 0 0).toNat < 128) :
    VC Tryd.prog 42 [.string (sb l)] w (fun v w' => v = .tuple #[.int .i32 ((decR l.length (l.getD 0 0).toNat (l.getD 1 0).toNat (l.getD 2 0).toNat (l.getD 3 0).toNat).1 : Nat), .int .i64 ((decR l.length (l.getD 0 0).toNat (l.getD 1 0).toNat (l.getD 2 0).toNat (l.getD 3 0).toNat).2 : Nat)] ∧ Keep No w w') := by
  obtain ⟨c, q0⟩ : ∃ c, c = (l.getD 0 0).toNat := ⟨_, rfl⟩
  obtain ⟨b1, q1⟩ : ∃ c, c = (l.getD 1 0).toNat := ⟨_, rfl⟩
  obtain ⟨b2, q2⟩ : ∃ c, c = (l.getD 2 0).toNat := ⟨_, rfl⟩
  obtain ⟨b3, q3⟩ : ∃ c, c = (l.getD 3 0).toNat := ⟨_, rfl⟩
  have c8 : c < 256 := by rw [q0]; exact UInt8.toNat_lt _
  have b18 : b1 < 256 := by rw [q1]; exact UInt8.toNat_lt _
  have b28 : b2 < 256 := by rw [q2]; exact UInt8.toNat_lt _
  have b38 : b3 < 256 := by rw [q3]; exact UInt8.toNat_lt _
  rw [← q0] at h128
  rw [← q0, ← q1, ← q2, ← q3]
  obtain ⟨R, hR⟩ : ∃ R, R = decR l.length c b1 b2 b3 := ⟨_, rfl⟩
  rw [← hR]
  have hf := firstF_ok c (by omega) c8
  have h0 := hu.1 c c8
  rw [hf] at h0
  have hsz := sb_size l
  have cls : (c < 194 ∨ 244 < c) ∨ (194 ≤ c ∧ c ≤ 223) ∨ c = 224 ∨ c = 237 ∨ (225 ≤ c ∧ c ≤ 239 ∧ c ≠ 237) ∨ c = 240 ∨ (241 ≤ c ∧ c ≤ 243) ∨ c = 244 := by omega
  rcases cls with hk | hk | hk | hk | hk | hk | hk | hk
  · obtain ⟨sz, hsz'⟩ : ∃ z, z = 0 := ⟨_, rfl⟩
    obtain ⟨lo, hlo'⟩ : ∃ z, z = 0 := ⟨_, rfl⟩
    obtain ⟨hi, hhi'⟩ : ∃ z, z = 0 := ⟨_, rfl⟩
    have hs : decS c = (sz, lo, hi) := by
      rw [hsz', hlo', hhi']
      unfold decS
      first | (simp [hk]; done) | (repeat' split) <;> first | rfl | (exfalso; omega)
    have hx : firstF c = 241 := by
      unfold firstF
      first | (simp [hk]; done) | (repeat' split) <;> first | rfl | (exfalso; omega)
    unfold decR at hR
    simp only [hs] at hR
    rw [hx] at h0
    refine VC.of tt_ok Tryd.func42 rfl (by decide +kernel) (Nat.le_of_ble_eq_true rfl) ?_; (conv => whnf)
    rw [hsz]
    refine VCmp.mk (fun h => absurd h (by omega)) (fun _ => ?_); (conv => whnf)
    refine VIdxS.sb 0 rfl (by omega) ?_
    rw [← q0]
    (conv => whnf)
    refine VIdxA.one c rfl (by omega) rfl ?_
    (conv => whnf)
    refine VLoad.by_ (by rw [Nat.zero_add]; exact h0) ?_
    (conv => whnf)
    refine VCmp.mk (fun _ => ?_) (fun h => absurd h (by decide)); (conv => whnf)
    rw [if_pos (Or.inl (by omega))] at hR
    refine VRes.raw ?_
    rw [show IntKind.wrap .i32 ((241 : Nat) : Int) = 241 from by decide]
    (conv => whnf)
    refine VReq.mk (by omega) ?_
    refine VRes.raw ?_
    rw [show IntKind.wrap .i32 (241 * 2 ^ (min (Int.toNat 31) (IntKind.bits .i32))) = -2147483648 from by decide]
    (conv => whnf)
    refine VReq.mk (by omega) ?_
    refine VRes.raw ?_
    rw [show Int.fdiv (-2147483648) (2 ^ (min (Int.toNat 31) (IntKind.bits .i32))) = -1 from by decide]
    (conv => whnf)
    refine VIdxS.sb 0 rfl (by omega) ?_
    rw [← q0]
    (conv => whnf)
    refine VRes.i32 (by omega) ?_
    (conv => whnf)
    refine VRes.raw ?_
    have e0 : IntKind.wrap .i32 ((BitVec.ofInt (IntKind.bits .i32) (c : Int) &&& ~~~ BitVec.ofInt (IntKind.bits .i32) (-1)).toNat : Int) = 0 := by
      have : ~~~ BitVec.ofInt (IntKind.bits .i32) (-1) = 0#(IntKind.bits .i32) := by decide
      rw [this, BitVec.and_zero]; decide
    rw [e0]
    (conv => whnf)
    refine VRes.raw ?_
    rw [show IntKind.wrap .i32 ((BitVec.ofInt (IntKind.bits .i32) 65533 &&& BitVec.ofInt (IntKind.bits .i32) (-1)).toNat : Int) = 65533 from by decide]
    (conv => whnf)
    refine VRes.raw ?_
    rw [show IntKind.wrap .i32 ((BitVec.ofInt (IntKind.bits .i32) 0 ||| BitVec.ofInt (IntKind.bits .i32) 65533).toNat : Int) = 65533 from by decide]
    (conv => whnf)
    subst hR
    exact ⟨rfl, Keep.refl _ _⟩
  · obtain ⟨sz, hsz'⟩ : ∃ z, z = 2 := ⟨_, rfl⟩
    obtain ⟨lo, hlo'⟩ : ∃ z, z = 128 := ⟨_, rfl⟩
    obtain ⟨hi, hhi'⟩ : ∃ z, z = 191 := ⟨_, rfl⟩
    have hs : decS c = (sz, lo, hi) := by
      rw [hsz', hlo', hhi']
      unfold decS
      first | (simp [hk]; done) | (repeat' split) <;> first | rfl | (exfalso; omega)
    have hx : firstF c = 2 := by
      unfold firstF
      first | (simp [hk]; done) | (repeat' split) <;> first | rfl | (exfalso; omega)
    unfold decR at hR
    simp only [hs] at hR
    rw [hx] at h0
    refine VC.of tt_ok Tryd.func42 rfl (by decide +kernel) (Nat.le_of_ble_eq_true rfl) ?_; (conv => whnf)
    rw [hsz]
    refine VCmp.mk (fun h => absurd h (by omega)) (fun _ => ?_); (conv => whnf)
    refine VIdxS.sb 0 rfl (by omega) ?_
    rw [← q0]
    (conv => whnf)
    refine VIdxA.one c rfl (by omega) rfl ?_
    (conv => whnf)
    refine VLoad.by_ (by rw [Nat.zero_add]; exact h0) ?_
    (conv => whnf)
    refine VCmp.mk (fun h => absurd h (by decide)) (fun _ => ?_); (conv => whnf)
    refine VRes.raw ?_
    rw [show IntKind.wrap .u8 ((BitVec.ofInt (IntKind.bits .u8) ((2 : Nat) : Int) &&& BitVec.ofInt (IntKind.bits .u8) 7).toNat : Int) = 2 from by decide]
    (conv => whnf)
    refine VRes.i64 (by omega) ?_
    (conv => whnf)
    refine VReq.mk (by omega) ?_
    refine VRes.raw ?_
    rw [show Int.fdiv ((2 : Nat) : Int) (2 ^ (min (Int.toNat 4) (IntKind.bits .u8))) = 0 from by decide]
    (conv => whnf)
    obtain ⟨hlo, hhi⟩ := hu.2 0 (by omega)
    refine VIdxA.mk2 0 rfl (by omega) ?_
    (conv => whnf)
    refine VLoads.two hlo hhi ?_
    (conv => whnf)
    refine ⟨fun w1 hb kp => ?_⟩; have hb_lt := Blk.lt hb; have kp_sz := kp.size; (conv => whnf)
    (conv => whnf)
    refine VReq.mk ⟨rfl, (fun u hu => List.all_eq_true.mp (show List.all _ (fun u => u.oneCell') = true by rfl) u hu)⟩ ?_
    (conv => whnf)
    refine VStore.all hb rfl ?_
    intro w2 hb2 k2 _
    have kp := kp.fresh_ k2 (Nat.le_refl _)
    (conv => whnf)
    refine VCmp.mk (fun h => ?_) (fun h => ?_) <;> (conv => whnf)
    · rw [if_pos (.inr (by omega))] at hR
      subst hR
      exact ⟨rfl, kp⟩
    rw [if_neg (by omega)] at hR
    refine VIdxS.sb 1 rfl (by omega) ?_
    rw [← q1]
    (conv => whnf)
    refine VLoad.by_ (hb2.cell 0) ?_
    (conv => whnf)
    refine VCmp.mk (fun h2 => ?_) (fun h2 => ?_) <;> (conv => whnf)
    · rw [if_pos (.inl (by have h2 : (b1 : Int) < 128 := h2; omega))] at hR
      subst hR
      exact ⟨rfl, kp⟩
    have h2 : ¬ (b1 : Int) < 128 := h2
    refine VLoad.by_ (hb2.cell 1) ?_
    (conv => whnf)
    refine VCmp.mk (fun h3 => ?_) (fun h3 => ?_) <;> (conv => whnf)
    · rw [if_pos (.inr (by have h3 : (191 : Int) < b1 := h3; omega))] at hR
      subst hR
      exact ⟨rfl, kp⟩
    have h3 : ¬ (191 : Int) < b1 := h3
    rw [if_neg (by omega)] at hR
    rw [if_pos (by omega)] at hR
    refine VCmp.mk (fun _ => ?_) (fun h => absurd h (by decide)); (conv => whnf)
    refine VRes.mask8 (x := c) (k := 5) rfl (by omega) rfl (by omega) ?_
    (conv => whnf)
    refine VRes.i32 (by omega) ?_
    (conv => whnf)
    refine VReq.mk (by omega) ?_
    refine VRes.shl32i (N := c % 2 ^ 5) (s := 6) rfl rfl (by omega) (by omega) ?_
    (conv => whnf)
    refine VRes.mask8 (x := b1) (k := 6) rfl (by omega) rfl (by omega) ?_
    (conv => whnf)
    refine VRes.i32 (by omega) ?_
    (conv => whnf)
    refine VRes.or32i (N := c % 2 ^ 5 * 2 ^ 6) (M := b1 % 2 ^ 6) rfl rfl (by omega) (by omega) (or_add (x := c % 2 ^ 5) (k := 6) (by omega) (by omega)) ?_
    (conv => whnf)
    subst hR
    exact ⟨rfl, kp⟩
  · obtain ⟨sz, hsz'⟩ : ∃ z, z = 3 := ⟨_, rfl⟩
    obtain ⟨lo, hlo'⟩ : ∃ z, z = 160 := ⟨_, rfl⟩
    obtain ⟨hi, hhi'⟩ : ∃ z, z = 191 := ⟨_, rfl⟩
    have hs : decS c = (sz, lo, hi) := by
      rw [hsz', hlo', hhi']
      unfold decS
      first | (simp [hk]; done) | (repeat' split) <;> first | rfl | (exfalso; omega)
    have hx : firstF c = 19 := by
      unfold firstF
      first | (simp [hk]; done) | (repeat' split) <;> first | rfl | (exfalso; omega)
    unfold decR at hR
    simp only [hs] at hR
    rw [hx] at h0
    refine VC.of tt_ok Tryd.func42 rfl (by decide +kernel) (Nat.le_of_ble_eq_true rfl) ?_; (conv => whnf)
    rw [hsz]
    refine VCmp.mk (fun h => absurd h (by omega)) (fun _ => ?_); (conv => whnf)
    refine VIdxS.sb 0 rfl (by omega) ?_
    rw [← q0]
    (conv => whnf)
    refine VIdxA.one c rfl (by omega) rfl ?_
    (conv => whnf)
    refine VLoad.by_ (by rw [Nat.zero_add]; exact h0) ?_
    (conv => whnf)
    refine VCmp.mk (fun h => absurd h (by decide)) (fun _ => ?_); (conv => whnf)
    refine VRes.raw ?_
    rw [show IntKind.wrap .u8 ((BitVec.ofInt (IntKind.bits .u8) ((19 : Nat) : Int) &&& BitVec.ofInt (IntKind.bits .u8) 7).toNat : Int) = 3 from by decide]
    (conv => whnf)
    refine VRes.i64 (by omega) ?_
    (conv => whnf)
    refine VReq.mk (by omega) ?_
    refine VRes.raw ?_
    rw [show Int.fdiv ((19 : Nat) : Int) (2 ^ (min (Int.toNat 4) (IntKind.bits .u8))) = 1 from by decide]
    (conv => whnf)
    obtain ⟨hlo, hhi⟩ := hu.2 1 (by omega)
    refine VIdxA.mk2 1 rfl (by omega) ?_
    (conv => whnf)
    refine VLoads.two hlo hhi ?_
    (conv => whnf)
    refine ⟨fun w1 hb kp => ?_⟩; have hb_lt := Blk.lt hb; have kp_sz := kp.size; (conv => whnf)
    (conv => whnf)
    refine VReq.mk ⟨rfl, (fun u hu => List.all_eq_true.mp (show List.all _ (fun u => u.oneCell') = true by rfl) u hu)⟩ ?_
    (conv => whnf)
    refine VStore.all hb rfl ?_
    intro w2 hb2 k2 _
    have kp := kp.fresh_ k2 (Nat.le_refl _)
    (conv => whnf)
    refine VCmp.mk (fun h => ?_) (fun h => ?_) <;> (conv => whnf)
    · rw [if_pos (.inr (by omega))] at hR
      subst hR
      exact ⟨rfl, kp⟩
    rw [if_neg (by omega)] at hR
    refine VIdxS.sb 1 rfl (by omega) ?_
    rw [← q1]
    (conv => whnf)
    refine VLoad.by_ (hb2.cell 0) ?_
    (conv => whnf)
    refine VCmp.mk (fun h2 => ?_) (fun h2 => ?_) <;> (conv => whnf)
    · rw [if_pos (.inl (by have h2 : (b1 : Int) < 160 := h2; omega))] at hR
      subst hR
      exact ⟨rfl, kp⟩
    have h2 : ¬ (b1 : Int) < 160 := h2
    refine VLoad.by_ (hb2.cell 1) ?_
    (conv => whnf)
    refine VCmp.mk (fun h3 => ?_) (fun h3 => ?_) <;> (conv => whnf)
    · rw [if_pos (.inr (by have h3 : (191 : Int) < b1 := h3; omega))] at hR
      subst hR
      exact ⟨rfl, kp⟩
    have h3 : ¬ (191 : Int) < b1 := h3
    rw [if_neg (by omega)] at hR
    rw [if_neg (by omega)] at hR
    refine VCmp.mk (fun h => absurd h (by decide)) (fun _ => ?_); (conv => whnf)
    refine VIdxS.sb 2 rfl (by omega) ?_
    rw [← q2]
    (conv => whnf)
    refine VCmp.mk (fun h4 => ?_) (fun h4 => ?_) <;> (conv => whnf)
    · rw [if_pos (.inl (by omega))] at hR
      subst hR
      exact ⟨rfl, kp⟩
    refine VCmp.mk (fun h5 => ?_) (fun h5 => ?_) <;> (conv => whnf)
    · rw [if_pos (.inr (by omega))] at hR
      subst hR
      exact ⟨rfl, kp⟩
    rw [if_neg (by omega)] at hR
    rw [if_pos (by omega)] at hR
    refine VCmp.mk (fun _ => ?_) (fun h => absurd h (by decide)); (conv => whnf)
    refine VRes.mask8 (x := c) (k := 4) rfl (by omega) rfl (by omega) ?_
    (conv => whnf)
    refine VRes.i32 (by omega) ?_
    (conv => whnf)
    refine VReq.mk (by omega) ?_
    refine VRes.shl32i (N := c % 2 ^ 4) (s := 12) rfl rfl (by omega) (by omega) ?_
    (conv => whnf)
    refine VRes.mask8 (x := b1) (k := 6) rfl (by omega) rfl (by omega) ?_
    (conv => whnf)
    refine VRes.i32 (by omega) ?_
    (conv => whnf)
    refine VReq.mk (by omega) ?_
    refine VRes.shl32i (N := b1 % 2 ^ 6) (s := 6) rfl rfl (by omega) (by omega) ?_
    (conv => whnf)
    refine VRes.or32i (N := c % 2 ^ 4 * 2 ^ 12) (M := b1 % 2 ^ 6 * 2 ^ 6) rfl rfl (by omega) (by omega) (or_add (x := c % 2 ^ 4) (k := 12) (by omega) (by omega)) ?_
    (conv => whnf)
    refine VRes.mask8 (x := b2) (k := 6) rfl (by omega) rfl (by omega) ?_
    (conv => whnf)
    refine VRes.i32 (by omega) ?_
    (conv => whnf)
    refine VRes.or32i (N := c % 2 ^ 4 * 2 ^ 12 + b1 % 2 ^ 6 * 2 ^ 6) (M := b2 % 2 ^ 6) rfl rfl (by omega) (by omega) (or_add (x := c % 2 ^ 4 * 2 ^ 6 + b1 % 2 ^ 6) (k := 6) (by omega) (by omega)) ?_
    (conv => whnf)
    subst hR
    exact ⟨rfl, kp⟩
  · obtain ⟨sz, hsz'⟩ : ∃ z, z = 3 := ⟨_, rfl⟩
    obtain ⟨lo, hlo'⟩ : ∃ z, z = 128 := ⟨_, rfl⟩
    obtain ⟨hi, hhi'⟩ : ∃ z, z = 159 := ⟨_, rfl⟩
    have hs : decS c = (sz, lo, hi) := by
      rw [hsz', hlo', hhi']
      unfold decS
      first | (simp [hk]; done) | (repeat' split) <;> first | rfl | (exfalso; omega)
    have hx : firstF c = 35 := by
      unfold firstF
      first | (simp [hk]; done) | (repeat' split) <;> first | rfl | (exfalso; omega)
    unfold decR at hR
    simp only [hs] at hR
    rw [hx] at h0
    refine VC.of tt_ok Tryd.func42 rfl (by decide +kernel) (Nat.le_of_ble_eq_true rfl) ?_; (conv => whnf)
    rw [hsz]
    refine VCmp.mk (fun h => absurd h (by omega)) (fun _ => ?_); (conv => whnf)
    refine VIdxS.sb 0 rfl (by omega) ?_
    rw [← q0]
    (conv => whnf)
    refine VIdxA.one c rfl (by omega) rfl ?_
    (conv => whnf)
    refine VLoad.by_ (by rw [Nat.zero_add]; exact h0) ?_
    (conv => whnf)
    refine VCmp.mk (fun h => absurd h (by decide)) (fun _ => ?_); (conv => whnf)
    refine VRes.raw ?_
    rw [show IntKind.wrap .u8 ((BitVec.ofInt (IntKind.bits .u8) ((35 : Nat) : Int) &&& BitVec.ofInt (IntKind.bits .u8) 7).toNat : Int) = 3 from by decide]
    (conv => whnf)
    refine VRes.i64 (by omega) ?_
    (conv => whnf)
    refine VReq.mk (by omega) ?_
    refine VRes.raw ?_
    rw [show Int.fdiv ((35 : Nat) : Int) (2 ^ (min (Int.toNat 4) (IntKind.bits .u8))) = 2 from by decide]
    (conv => whnf)
    obtain ⟨hlo, hhi⟩ := hu.2 2 (by omega)
    refine VIdxA.mk2 2 rfl (by omega) ?_
    (conv => whnf)
    refine VLoads.two hlo hhi ?_
    (conv => whnf)
    refine ⟨fun w1 hb kp => ?_⟩; have hb_lt := Blk.lt hb; have kp_sz := kp.size; (conv => whnf)
    (conv => whnf)
    refine VReq.mk ⟨rfl, (fun u hu => List.all_eq_true.mp (show List.all _ (fun u => u.oneCell') = true by rfl) u hu)⟩ ?_
    (conv => whnf)
    refine VStore.all hb rfl ?_
    intro w2 hb2 k2 _
    have kp := kp.fresh_ k2 (Nat.le_refl _)
    (conv => whnf)
    refine VCmp.mk (fun h => ?_) (fun h => ?_) <;> (conv => whnf)
    · rw [if_pos (.inr (by omega))] at hR
      subst hR
      exact ⟨rfl, kp⟩
    rw [if_neg (by omega)] at hR
    refine VIdxS.sb 1 rfl (by omega) ?_
    rw [← q1]
    (conv => whnf)
    refine VLoad.by_ (hb2.cell 0) ?_
    (conv => whnf)
    refine VCmp.mk (fun h2 => ?_) (fun h2 => ?_) <;> (conv => whnf)
    · rw [if_pos (.inl (by have h2 : (b1 : Int) < 128 := h2; omega))] at hR
      subst hR
      exact ⟨rfl, kp⟩
    have h2 : ¬ (b1 : Int) < 128 := h2
    refine VLoad.by_ (hb2.cell 1) ?_
    (conv => whnf)
    refine VCmp.mk (fun h3 => ?_) (fun h3 => ?_) <;> (conv => whnf)
    · rw [if_pos (.inr (by have h3 : (159 : Int) < b1 := h3; omega))] at hR
      subst hR
      exact ⟨rfl, kp⟩
    have h3 : ¬ (159 : Int) < b1 := h3
    rw [if_neg (by omega)] at hR
    rw [if_neg (by omega)] at hR
    refine VCmp.mk (fun h => absurd h (by decide)) (fun _ => ?_); (conv => whnf)
    refine VIdxS.sb 2 rfl (by omega) ?_
    rw [← q2]
    (conv => whnf)
    refine VCmp.mk (fun h4 => ?_) (fun h4 => ?_) <;> (conv => whnf)
    · rw [if_pos (.inl (by omega))] at hR
      subst hR
      exact ⟨rfl, kp⟩
    refine VCmp.mk (fun h5 => ?_) (fun h5 => ?_) <;> (conv => whnf)
    · rw [if_pos (.inr (by omega))] at hR
      subst hR
      exact ⟨rfl, kp⟩
    rw [if_neg (by omega)] at hR
    rw [if_pos (by omega)] at hR
    refine VCmp.mk (fun _ => ?_) (fun h => absurd h (by decide)); (conv => whnf)
    refine VRes.mask8 (x := c) (k := 4) rfl (by omega) rfl (by omega) ?_
    (conv => whnf)
    refine VRes.i32 (by omega) ?_
    (conv => whnf)
    refine VReq.mk (by omega) ?_
    refine VRes.shl32i (N := c % 2 ^ 4) (s := 12) rfl rfl (by omega) (by omega) ?_
    (conv => whnf)
    refine VRes.mask8 (x := b1) (k := 6) rfl (by omega) rfl (by omega) ?_
    (conv => whnf)
    refine VRes.i32 (by omega) ?_
    (conv => whnf)
    refine VReq.mk (by omega) ?_
    refine VRes.shl32i (N := b1 % 2 ^ 6) (s := 6) rfl rfl (by omega) (by omega) ?_
    (conv => whnf)
    refine VRes.or32i (N := c % 2 ^ 4 * 2 ^ 12) (M := b1 % 2 ^ 6 * 2 ^ 6) rfl rfl (by omega) (by omega) (or_add (x := c % 2 ^ 4) (k := 12) (by omega) (by omega)) ?_
    (conv => whnf)
    refine VRes.mask8 (x := b2) (k := 6) rfl (by omega) rfl (by omega) ?_
    (conv => whnf)
    refine VRes.i32 (by omega) ?_
    (conv => whnf)
    refine VRes.or32i (N := c % 2 ^ 4 * 2 ^ 12 + b1 % 2 ^ 6 * 2 ^ 6) (M := b2 % 2 ^ 6) rfl rfl (by omega) (by omega) (or_add (x := c % 2 ^ 4 * 2 ^ 6 + b1 % 2 ^ 6) (k := 6) (by omega) (by omega)) ?_
    (conv => whnf)
    subst hR
    exact ⟨rfl, kp⟩
  · obtain ⟨sz, hsz'⟩ : ∃ z, z = 3 := ⟨_, rfl⟩
    obtain ⟨lo, hlo'⟩ : ∃ z, z = 128 := ⟨_, rfl⟩
    obtain ⟨hi, hhi'⟩ : ∃ z, z = 191 := ⟨_, rfl⟩
    have hs : decS c = (sz, lo, hi) := by
      rw [hsz', hlo', hhi']
      unfold decS
      first | (simp [hk]; done) | (repeat' split) <;> first | rfl | (exfalso; omega)
    have hx : firstF c = 3 := by
      unfold firstF
      first | (simp [hk]; done) | (repeat' split) <;> first | rfl | (exfalso; omega)
    unfold decR at hR
    simp only [hs] at hR
    rw [hx] at h0
    refine VC.of tt_ok Tryd.func42 rfl (by decide +kernel) (Nat.le_of_ble_eq_true rfl) ?_; (conv => whnf)
    rw [hsz]
    refine VCmp.mk (fun h => absurd h (by omega)) (fun _ => ?_); (conv => whnf)
    refine VIdxS.sb 0 rfl (by omega) ?_
    rw [← q0]
    (conv => whnf)
    refine VIdxA.one c rfl (by omega) rfl ?_
    (conv => whnf)
    refine VLoad.by_ (by rw [Nat.zero_add]; exact h0) ?_
    (conv => whnf)
    refine VCmp.mk (fun h => absurd h (by decide)) (fun _ => ?_); (conv => whnf)
    refine VRes.raw ?_
    rw [show IntKind.wrap .u8 ((BitVec.ofInt (IntKind.bits .u8) ((3 : Nat) : Int) &&& BitVec.ofInt (IntKind.bits .u8) 7).toNat : Int) = 3 from by decide]
    (conv => whnf)
    refine VRes.i64 (by omega) ?_
    (conv => whnf)
    refine VReq.mk (by omega) ?_
    refine VRes.raw ?_
    rw [show Int.fdiv ((3 : Nat) : Int) (2 ^ (min (Int.toNat 4) (IntKind.bits .u8))) = 0 from by decide]
    (conv => whnf)
    obtain ⟨hlo, hhi⟩ := hu.2 0 (by omega)
    refine VIdxA.mk2 0 rfl (by omega) ?_
    (conv => whnf)
    refine VLoads.two hlo hhi ?_
    (conv => whnf)
    refine ⟨fun w1 hb kp => ?_⟩; have hb_lt := Blk.lt hb; have kp_sz := kp.size; (conv => whnf)
    (conv => whnf)
    refine VReq.mk ⟨rfl, (fun u hu => List.all_eq_true.mp (show List.all _ (fun u => u.oneCell') = true by rfl) u hu)⟩ ?_
    (conv => whnf)
    refine VStore.all hb rfl ?_
    intro w2 hb2 k2 _
    have kp := kp.fresh_ k2 (Nat.le_refl _)
    (conv => whnf)
    refine VCmp.mk (fun h => ?_) (fun h => ?_) <;> (conv => whnf)
    · rw [if_pos (.inr (by omega))] at hR
      subst hR
      exact ⟨rfl, kp⟩
    rw [if_neg (by omega)] at hR
    refine VIdxS.sb 1 rfl (by omega) ?_
    rw [← q1]
    (conv => whnf)
    refine VLoad.by_ (hb2.cell 0) ?_
    (conv => whnf)
    refine VCmp.mk (fun h2 => ?_) (fun h2 => ?_) <;> (conv => whnf)
    · rw [if_pos (.inl (by have h2 : (b1 : Int) < 128 := h2; omega))] at hR
      subst hR
      exact ⟨rfl, kp⟩
    have h2 : ¬ (b1 : Int) < 128 := h2
    refine VLoad.by_ (hb2.cell 1) ?_
    (conv => whnf)
    refine VCmp.mk (fun h3 => ?_) (fun h3 => ?_) <;> (conv => whnf)
    · rw [if_pos (.inr (by have h3 : (191 : Int) < b1 := h3; omega))] at hR
      subst hR
      exact ⟨rfl, kp⟩
    have h3 : ¬ (191 : Int) < b1 := h3
    rw [if_neg (by omega)] at hR
    rw [if_neg (by omega)] at hR
    refine VCmp.mk (fun h => absurd h (by decide)) (fun _ => ?_); (conv => whnf)
    refine VIdxS.sb 2 rfl (by omega) ?_
    rw [← q2]
    (conv => whnf)
    refine VCmp.mk (fun h4 => ?_) (fun h4 => ?_) <;> (conv => whnf)
    · rw [if_pos (.inl (by omega))] at hR
      subst hR
      exact ⟨rfl, kp⟩
    refine VCmp.mk (fun h5 => ?_) (fun h5 => ?_) <;> (conv => whnf)
    · rw [if_pos (.inr (by omega))] at hR
      subst hR
      exact ⟨rfl, kp⟩
    rw [if_neg (by omega)] at hR
    rw [if_pos (by omega)] at hR
    refine VCmp.mk (fun _ => ?_) (fun h => absurd h (by decide)); (conv => whnf)
    refine VRes.mask8 (x := c) (k := 4) rfl (by omega) rfl (by omega) ?_
    (conv => whnf)
    refine VRes.i32 (by omega) ?_
    (conv => whnf)
    refine VReq.mk (by omega) ?_
    refine VRes.shl32i (N := c % 2 ^ 4) (s := 12) rfl rfl (by omega) (by omega) ?_
    (conv => whnf)
    refine VRes.mask8 (x := b1) (k := 6) rfl (by omega) rfl (by omega) ?_
    (conv => whnf)
    refine VRes.i32 (by omega) ?_
    (conv => whnf)
    refine VReq.mk (by omega) ?_
    refine VRes.shl32i (N := b1 % 2 ^ 6) (s := 6) rfl rfl (by omega) (by omega) ?_
    (conv => whnf)
    refine VRes.or32i (N := c % 2 ^ 4 * 2 ^ 12) (M := b1 % 2 ^ 6 * 2 ^ 6) rfl rfl (by omega) (by omega) (or_add (x := c % 2 ^ 4) (k := 12) (by omega) (by omega)) ?_
    (conv => whnf)
    refine VRes.mask8 (x := b2) (k := 6) rfl (by omega) rfl (by omega) ?_
    (conv => whnf)
    refine VRes.i32 (by omega) ?_
    (conv => whnf)
    refine VRes.or32i (N := c % 2 ^ 4 * 2 ^ 12 + b1 % 2 ^ 6 * 2 ^ 6) (M := b2 % 2 ^ 6) rfl rfl (by omega) (by omega) (or_add (x := c % 2 ^ 4 * 2 ^ 6 + b1 % 2 ^ 6) (k := 6) (by omega) (by omega)) ?_
    (conv => whnf)
    subst hR
    exact ⟨rfl, kp⟩
  · obtain ⟨sz, hsz'⟩ : ∃ z, z = 4 := ⟨_, rfl⟩
    obtain ⟨lo, hlo'⟩ : ∃ z, z = 144 := ⟨_, rfl⟩
    obtain ⟨hi, hhi'⟩ : ∃ z, z = 191 := ⟨_, rfl⟩
    have hs : decS c = (sz, lo, hi) := by
      rw [hsz', hlo', hhi']
      unfold decS
      first | (simp [hk]; done) | (repeat' split) <;> first | rfl | (exfalso; omega)
    have hx : firstF c = 52 := by
      unfold firstF
      first | (simp [hk]; done) | (repeat' split) <;> first | rfl | (exfalso; omega)
    unfold decR at hR
    simp only [hs] at hR
    rw [hx] at h0
    refine VC.of tt_ok Tryd.func42 rfl (by decide +kernel) (Nat.le_of_ble_eq_true rfl) ?_; (conv => whnf)
    rw [hsz]
    refine VCmp.mk (fun h => absurd h (by omega)) (fun _ => ?_); (conv => whnf)
    refine VIdxS.sb 0 rfl (by omega) ?_
    rw [← q0]
    (conv => whnf)
    refine VIdxA.one c rfl (by omega) rfl ?_
    (conv => whnf)
    refine VLoad.by_ (by rw [Nat.zero_add]; exact h0) ?_
    (conv => whnf)
    refine VCmp.mk (fun h => absurd h (by decide)) (fun _ => ?_); (conv => whnf)
    refine VRes.raw ?_
    rw [show IntKind.wrap .u8 ((BitVec.ofInt (IntKind.bits .u8) ((52 : Nat) : Int) &&& BitVec.ofInt (IntKind.bits .u8) 7).toNat : Int) = 4 from by decide]
    (conv => whnf)
    refine VRes.i64 (by omega) ?_
    (conv => whnf)
    refine VReq.mk (by omega) ?_
    refine VRes.raw ?_
    rw [show Int.fdiv ((52 : Nat) : Int) (2 ^ (min (Int.toNat 4) (IntKind.bits .u8))) = 3 from by decide]
    (conv => whnf)
    obtain ⟨hlo, hhi⟩ := hu.2 3 (by omega)
    refine VIdxA.mk2 3 rfl (by omega) ?_
    (conv => whnf)
    refine VLoads.two hlo hhi ?_
    (conv => whnf)
    refine ⟨fun w1 hb kp => ?_⟩; have hb_lt := Blk.lt hb; have kp_sz := kp.size; (conv => whnf)
    (conv => whnf)
    refine VReq.mk ⟨rfl, (fun u hu => List.all_eq_true.mp (show List.all _ (fun u => u.oneCell') = true by rfl) u hu)⟩ ?_
    (conv => whnf)
    refine VStore.all hb rfl ?_
    intro w2 hb2 k2 _
    have kp := kp.fresh_ k2 (Nat.le_refl _)
    (conv => whnf)
    refine VCmp.mk (fun h => ?_) (fun h => ?_) <;> (conv => whnf)
    · rw [if_pos (.inr (by omega))] at hR
      subst hR
      exact ⟨rfl, kp⟩
    rw [if_neg (by omega)] at hR
    refine VIdxS.sb 1 rfl (by omega) ?_
    rw [← q1]
    (conv => whnf)
    refine VLoad.by_ (hb2.cell 0) ?_
    (conv => whnf)
    refine VCmp.mk (fun h2 => ?_) (fun h2 => ?_) <;> (conv => whnf)
    · rw [if_pos (.inl (by have h2 : (b1 : Int) < 144 := h2; omega))] at hR
      subst hR
      exact ⟨rfl, kp⟩
    have h2 : ¬ (b1 : Int) < 144 := h2
    refine VLoad.by_ (hb2.cell 1) ?_
    (conv => whnf)
    refine VCmp.mk (fun h3 => ?_) (fun h3 => ?_) <;> (conv => whnf)
    · rw [if_pos (.inr (by have h3 : (191 : Int) < b1 := h3; omega))] at hR
      subst hR
      exact ⟨rfl, kp⟩
    have h3 : ¬ (191 : Int) < b1 := h3
    rw [if_neg (by omega)] at hR
    rw [if_neg (by omega)] at hR
    refine VCmp.mk (fun h => absurd h (by decide)) (fun _ => ?_); (conv => whnf)
    refine VIdxS.sb 2 rfl (by omega) ?_
    rw [← q2]
    (conv => whnf)
    refine VCmp.mk (fun h4 => ?_) (fun h4 => ?_) <;> (conv => whnf)
    · rw [if_pos (.inl (by omega))] at hR
      subst hR
      exact ⟨rfl, kp⟩
    refine VCmp.mk (fun h5 => ?_) (fun h5 => ?_) <;> (conv => whnf)
    · rw [if_pos (.inr (by omega))] at hR
      subst hR
      exact ⟨rfl, kp⟩
    rw [if_neg (by omega)] at hR
    rw [if_neg (by omega)] at hR
    refine VCmp.mk (fun h => absurd h (by decide)) (fun _ => ?_); (conv => whnf)
    refine VIdxS.sb 3 rfl (by omega) ?_
    rw [← q3]
    (conv => whnf)
    refine VCmp.mk (fun h6 => ?_) (fun h6 => ?_) <;> (conv => whnf)
    · rw [if_pos (.inl (by omega))] at hR
      subst hR
      exact ⟨rfl, kp⟩
    refine VCmp.mk (fun h7 => ?_) (fun h7 => ?_) <;> (conv => whnf)
    · rw [if_pos (.inr (by omega))] at hR
      subst hR
      exact ⟨rfl, kp⟩
    rw [if_neg (by omega)] at hR
    refine VRes.mask8 (x := c) (k := 3) rfl (by omega) rfl (by omega) ?_
    (conv => whnf)
    refine VRes.i32 (by omega) ?_
    (conv => whnf)
    refine VReq.mk (by omega) ?_
    refine VRes.shl32i (N := c % 2 ^ 3) (s := 18) rfl rfl (by omega) (by omega) ?_
    (conv => whnf)
    refine VRes.mask8 (x := b1) (k := 6) rfl (by omega) rfl (by omega) ?_
    (conv => whnf)
    refine VRes.i32 (by omega) ?_
    (conv => whnf)
    refine VReq.mk (by omega) ?_
    refine VRes.shl32i (N := b1 % 2 ^ 6) (s := 12) rfl rfl (by omega) (by omega) ?_
    (conv => whnf)
    refine VRes.or32i (N := c % 2 ^ 3 * 2 ^ 18) (M := b1 % 2 ^ 6 * 2 ^ 12) rfl rfl (by omega) (by omega) (or_add (x := c % 2 ^ 3) (k := 18) (by omega) (by omega)) ?_
    (conv => whnf)
    refine VRes.mask8 (x := b2) (k := 6) rfl (by omega) rfl (by omega) ?_
    (conv => whnf)
    refine VRes.i32 (by omega) ?_
    (conv => whnf)
    refine VReq.mk (by omega) ?_
    refine VRes.shl32i (N := b2 % 2 ^ 6) (s := 6) rfl rfl (by omega) (by omega) ?_
    (conv => whnf)
    refine VRes.or32i (N := c % 2 ^ 3 * 2 ^ 18 + b1 % 2 ^ 6 * 2 ^ 12) (M := b2 % 2 ^ 6 * 2 ^ 6) rfl rfl (by omega) (by omega) (or_add (x := c % 2 ^ 3 * 2 ^ 6 + b1 % 2 ^ 6) (k := 12) (by omega) (by omega)) ?_
    (conv => whnf)
    refine VRes.mask8 (x := b3) (k := 6) rfl (by omega) rfl (by omega) ?_
    (conv => whnf)
    refine VRes.i32 (by omega) ?_
    (conv => whnf)
    refine VRes.or32i (N := c % 2 ^ 3 * 2 ^ 18 + b1 % 2 ^ 6 * 2 ^ 12 + b2 % 2 ^ 6 * 2 ^ 6) (M := b3 % 2 ^ 6) rfl rfl (by omega) (by omega) (or_add (x := c % 2 ^ 3 * 2 ^ 12 + b1 % 2 ^ 6 * 2 ^ 6 + b2 % 2 ^ 6) (k := 6) (by omega) (by omega)) ?_
    (conv => whnf)
    subst hR
    exact ⟨rfl, kp⟩
  · obtain ⟨sz, hsz'⟩ : ∃ z, z = 4 := ⟨_, rfl⟩
    obtain ⟨lo, hlo'⟩ : ∃ z, z = 128 := ⟨_, rfl⟩
    obtain ⟨hi, hhi'⟩ : ∃ z, z = 191 := ⟨_, rfl⟩
    have hs : decS c = (sz, lo, hi) := by
      rw [hsz', hlo', hhi']
      unfold decS
      first | (simp [hk]; done) | (repeat' split) <;> first | rfl | (exfalso; omega)
    have hx : firstF c = 4 := by
      unfold firstF
      first | (simp [hk]; done) | (repeat' split) <;> first | rfl | (exfalso; omega)
    unfold decR at hR
    simp only [hs] at hR
    rw [hx] at h0
    refine VC.of tt_ok Tryd.func42 rfl (by decide +kernel) (Nat.le_of_ble_eq_true rfl) ?_; (conv => whnf)
    rw [hsz]
    refine VCmp.mk (fun h => absurd h (by omega)) (fun _ => ?_); (conv => whnf)
    refine VIdxS.sb 0 rfl (by omega) ?_
    rw [← q0]
    (conv => whnf)
    refine VIdxA.one c rfl (by omega) rfl ?_
    (conv => whnf)
    refine VLoad.by_ (by rw [Nat.zero_add]; exact h0) ?_
    (conv => whnf)
    refine VCmp.mk (fun h => absurd h (by decide)) (fun _ => ?_); (conv => whnf)
    refine VRes.raw ?_
    rw [show IntKind.wrap .u8 ((BitVec.ofInt (IntKind.bits .u8) ((4 : Nat) : Int) &&& BitVec.ofInt (IntKind.bits .u8) 7).toNat : Int) = 4 from by decide]
    (conv => whnf)
    refine VRes.i64 (by omega) ?_
    (conv => whnf)
    refine VReq.mk (by omega) ?_
    refine VRes.raw ?_
    rw [show Int.fdiv ((4 : Nat) : Int) (2 ^ (min (Int.toNat 4) (IntKind.bits .u8))) = 0 from by decide]
    (conv => whnf)
    obtain ⟨hlo, hhi⟩ := hu.2 0 (by omega)
    refine VIdxA.mk2 0 rfl (by omega) ?_
    (conv => whnf)
    refine VLoads.two hlo hhi ?_
    (conv => whnf)
    refine ⟨fun w1 hb kp => ?_⟩; have hb_lt := Blk.lt hb; have kp_sz := kp.size; (conv => whnf)
    (conv => whnf)
    refine VReq.mk ⟨rfl, (fun u hu => List.all_eq_true.mp (show List.all _ (fun u => u.oneCell') = true by rfl) u hu)⟩ ?_
    (conv => whnf)
    refine VStore.all hb rfl ?_
    intro w2 hb2 k2 _
    have kp := kp.fresh_ k2 (Nat.le_refl _)
    (conv => whnf)
    refine VCmp.mk (fun h => ?_) (fun h => ?_) <;> (conv => whnf)
    · rw [if_pos (.inr (by omega))] at hR
      subst hR
      exact ⟨rfl, kp⟩
    rw [if_neg (by omega)] at hR
    refine VIdxS.sb 1 rfl (by omega) ?_
    rw [← q1]
    (conv => whnf)
    refine VLoad.by_ (hb2.cell 0) ?_
    (conv => whnf)
    refine VCmp.mk (fun h2 => ?_) (fun h2 => ?_) <;> (conv => whnf)
    · rw [if_pos (.inl (by have h2 : (b1 : Int) < 128 := h2; omega))] at hR
      subst hR
      exact ⟨rfl, kp⟩
    have h2 : ¬ (b1 : Int) < 128 := h2
    refine VLoad.by_ (hb2.cell 1) ?_
    (conv => whnf)
    refine VCmp.mk (fun h3 => ?_) (fun h3 => ?_) <;> (conv => whnf)
    · rw [if_pos (.inr (by have h3 : (191 : Int) < b1 := h3; omega))] at hR
      subst hR
      exact ⟨rfl, kp⟩
    have h3 : ¬ (191 : Int) < b1 := h3
    rw [if_neg (by omega)] at hR
    rw [if_neg (by omega)] at hR
    refine VCmp.mk (fun h => absurd h (by decide)) (fun _ => ?_); (conv => whnf)
    refine VIdxS.sb 2 rfl (by omega) ?_
    rw [← q2]
    (conv => whnf)
    refine VCmp.mk (fun h4 => ?_) (fun h4 => ?_) <;> (conv => whnf)
    · rw [if_pos (.inl (by omega))] at hR
      subst hR
      exact ⟨rfl, kp⟩
    refine VCmp.mk (fun h5 => ?_) (fun h5 => ?_) <;> (conv => whnf)
    · rw [if_pos (.inr (by omega))] at hR
      subst hR
      exact ⟨rfl, kp⟩
    rw [if_neg (by omega)] at hR
    rw [if_neg (by omega)] at hR
    refine VCmp.mk (fun h => absurd h (by decide)) (fun _ => ?_); (conv => whnf)
    refine VIdxS.sb 3 rfl (by omega) ?_
    rw [← q3]
    (conv => whnf)
    refine VCmp.mk (fun h6 => ?_) (fun h6 => ?_) <;> (conv => whnf)
    · rw [if_pos (.inl (by omega))] at hR
      subst hR
      exact ⟨rfl, kp⟩
    refine VCmp.mk (fun h7 => ?_) (fun h7 => ?_) <;> (conv => whnf)
    · rw [if_pos (.inr (by omega))] at hR
      subst hR
      exact ⟨rfl, kp⟩
    rw [if_neg (by omega)] at hR
    refine VRes.mask8 (x := c) (k := 3) rfl (by omega) rfl (by omega) ?_
    (conv => whnf)
    refine VRes.i32 (by omega) ?_
    (conv => whnf)
    refine VReq.mk (by omega) ?_
    refine VRes.shl32i (N := c % 2 ^ 3) (s := 18) rfl rfl (by omega) (by omega) ?_
    (conv => whnf)
    refine VRes.mask8 (x := b1) (k := 6) rfl (by omega) rfl (by omega) ?_
    (conv => whnf)
    refine VRes.i32 (by omega) ?_
    (conv => whnf)
    refine VReq.mk (by omega) ?_
    refine VRes.shl32i (N := b1 % 2 ^ 6) (s := 12) rfl rfl (by omega) (by omega) ?_
    (conv => whnf)
    refine VRes.or32i (N := c % 2 ^ 3 * 2 ^ 18) (M := b1 % 2 ^ 6 * 2 ^ 12) rfl rfl (by omega) (by omega) (or_add (x := c % 2 ^ 3) (k := 18) (by omega) (by omega)) ?_
    (conv => whnf)
    refine VRes.mask8 (x := b2) (k := 6) rfl (by omega) rfl (by omega) ?_
    (conv => whnf)
    refine VRes.i32 (by omega) ?_
    (conv => whnf)
    refine VReq.mk (by omega) ?_
    refine VRes.shl32i (N := b2 % 2 ^ 6) (s := 6) rfl rfl (by omega) (by omega) ?_
    (conv => whnf)
    refine VRes.or32i (N := c % 2 ^ 3 * 2 ^ 18 + b1 % 2 ^ 6 * 2 ^ 12) (M := b2 % 2 ^ 6 * 2 ^ 6) rfl rfl (by omega) (by omega) (or_add (x := c % 2 ^ 3 * 2 ^ 6 + b1 % 2 ^ 6) (k := 12) (by omega) (by omega)) ?_
    (conv => whnf)
    refine VRes.mask8 (x := b3) (k := 6) rfl (by omega) rfl (by omega) ?_
    (conv => whnf)
    refine VRes.i32 (by omega) ?_
    (conv => whnf)
    refine VRes.or32i (N := c % 2 ^ 3 * 2 ^ 18 + b1 % 2 ^ 6 * 2 ^ 12 + b2 % 2 ^ 6 * 2 ^ 6) (M := b3 % 2 ^ 6) rfl rfl (by omega) (by omega) (or_add (x := c % 2 ^ 3 * 2 ^ 12 + b1 % 2 ^ 6 * 2 ^ 6 + b2 % 2 ^ 6) (k := 6) (by omega) (by omega)) ?_
    (conv => whnf)
    subst hR
    exact ⟨rfl, kp⟩
  · obtain ⟨sz, hsz'⟩ : ∃ z, z = 4 := ⟨_, rfl⟩
    obtain ⟨lo, hlo'⟩ : ∃ z, z = 128 := ⟨_, rfl⟩
    obtain ⟨hi, hhi'⟩ : ∃ z, z = 143 := ⟨_, rfl⟩
    have hs : decS c = (sz, lo, hi) := by
      rw [hsz', hlo', hhi']
      unfold decS
      first | (simp [hk]; done) | (repeat' split) <;> first | rfl | (exfalso; omega)
    have hx : firstF c = 68 := by
      unfold firstF
      first | (simp [hk]; done) | (repeat' split) <;> first | rfl | (exfalso; omega)
    unfold decR at hR
    simp only [hs] at hR
    rw [hx] at h0
    refine VC.of tt_ok Tryd.func42 rfl (by decide +kernel) (Nat.le_of_ble_eq_true rfl) ?_; (conv => whnf)
    rw [hsz]
    refine VCmp.mk (fun h => absurd h (by omega)) (fun _ => ?_); (conv => whnf)
    refine VIdxS.sb 0 rfl (by omega) ?_
    rw [← q0]
    (conv => whnf)
    refine VIdxA.one c rfl (by omega) rfl ?_
    (conv => whnf)
    refine VLoad.by_ (by rw [Nat.zero_add]; exact h0) ?_
    (conv => whnf)
    refine VCmp.mk (fun h => absurd h (by decide)) (fun _ => ?_); (conv => whnf)
    refine VRes.raw ?_
    rw [show IntKind.wrap .u8 ((BitVec.ofInt (IntKind.bits .u8) ((68 : Nat) : Int) &&& BitVec.ofInt (IntKind.bits .u8) 7).toNat : Int) = 4 from by decide]
    (conv => whnf)
    refine VRes.i64 (by omega) ?_
    (conv => whnf)
    refine VReq.mk (by omega) ?_
    refine VRes.raw ?_
    rw [show Int.fdiv ((68 : Nat) : Int) (2 ^ (min (Int.toNat 4) (IntKind.bits .u8))) = 4 from by decide]
    (conv => whnf)
    obtain ⟨hlo, hhi⟩ := hu.2 4 (by omega)
    refine VIdxA.mk2 4 rfl (by omega) ?_
    (conv => whnf)
    refine VLoads.two hlo hhi ?_
    (conv => whnf)
    refine ⟨fun w1 hb kp => ?_⟩; have hb_lt := Blk.lt hb; have kp_sz := kp.size; (conv => whnf)
    (conv => whnf)
    refine VReq.mk ⟨rfl, (fun u hu => List.all_eq_true.mp (show List.all _ (fun u => u.oneCell') = true by rfl) u hu)⟩ ?_
    (conv => whnf)
    refine VStore.all hb rfl ?_
    intro w2 hb2 k2 _
    have kp := kp.fresh_ k2 (Nat.le_refl _)
    (conv => whnf)
    refine VCmp.mk (fun h => ?_) (fun h => ?_) <;> (conv => whnf)
    · rw [if_pos (.inr (by omega))] at hR
      subst hR
      exact ⟨rfl, kp⟩
    rw [if_neg (by omega)] at hR
    refine VIdxS.sb 1 rfl (by omega) ?_
    rw [← q1]
    (conv => whnf)
    refine VLoad.by_ (hb2.cell 0) ?_
    (conv => whnf)
    refine VCmp.mk (fun h2 => ?_) (fun h2 => ?_) <;> (conv => whnf)
    · rw [if_pos (.inl (by have h2 : (b1 : Int) < 128 := h2; omega))] at hR
      subst hR
      exact ⟨rfl, kp⟩
    have h2 : ¬ (b1 : Int) < 128 := h2
    refine VLoad.by_ (hb2.cell 1) ?_
    (conv => whnf)
    refine VCmp.mk (fun h3 => ?_) (fun h3 => ?_) <;> (conv => whnf)
    · rw [if_pos (.inr (by have h3 : (143 : Int) < b1 := h3; omega))] at hR
      subst hR
      exact ⟨rfl, kp⟩
    have h3 : ¬ (143 : Int) < b1 := h3
    rw [if_neg (by omega)] at hR
    rw [if_neg (by omega)] at hR
    refine VCmp.mk (fun h => absurd h (by decide)) (fun _ => ?_); (conv => whnf)
    refine VIdxS.sb 2 rfl (by omega) ?_
    rw [← q2]
    (conv => whnf)
    refine VCmp.mk (fun h4 => ?_) (fun h4 => ?_) <;> (conv => whnf)
    · rw [if_pos (.inl (by omega))] at hR
      subst hR
      exact ⟨rfl, kp⟩
    refine VCmp.mk (fun h5 => ?_) (fun h5 => ?_) <;> (conv => whnf)
    · rw [if_pos (.inr (by omega))] at hR
      subst hR
      exact ⟨rfl, kp⟩
    rw [if_neg (by omega)] at hR
    rw [if_neg (by omega)] at hR
    refine VCmp.mk (fun h => absurd h (by decide)) (fun _ => ?_); (conv => whnf)
    refine VIdxS.sb 3 rfl (by omega) ?_
    rw [← q3]
    (conv => whnf)
    refine VCmp.mk (fun h6 => ?_) (fun h6 => ?_) <;> (conv => whnf)
    · rw [if_pos (.inl (by omega))] at hR
      subst hR
      exact ⟨rfl, kp⟩
    refine VCmp.mk (fun h7 => ?_) (fun h7 => ?_) <;> (conv => whnf)
    · rw [if_pos (.inr (by omega))] at hR
      subst hR
      exact ⟨rfl, kp⟩
    rw [if_neg (by omega)] at hR
    refine VRes.mask8 (x := c) (k := 3) rfl (by omega) rfl (by omega) ?_
    (conv => whnf)
    refine VRes.i32 (by omega) ?_
    (conv => whnf)
    refine VReq.mk (by omega) ?_
    refine VRes.shl32i (N := c % 2 ^ 3) (s := 18) rfl rfl (by omega) (by omega) ?_
    (conv => whnf)
    refine VRes.mask8 (x := b1) (k := 6) rfl (by omega) rfl (by omega) ?_
    (conv => whnf)
    refine VRes.i32 (by omega) ?_
    (conv => whnf)
    refine VReq.mk (by omega) ?_
    refine VRes.shl32i (N := b1 % 2 ^ 6) (s := 12) rfl rfl (by omega) (by omega) ?_
    (conv => whnf)
    refine VRes.or32i (N := c % 2 ^ 3 * 2 ^ 18) (M := b1 % 2 ^ 6 * 2 ^ 12) rfl rfl (by omega) (by omega) (or_add (x := c % 2 ^ 3) (k := 18) (by omega) (by omega)) ?_
    (conv => whnf)
    refine VRes.mask8 (x := b2) (k := 6) rfl (by omega) rfl (by omega) ?_
    (conv => whnf)
    refine VRes.i32 (by omega) ?_
    (conv => whnf)
    refine VReq.mk (by omega) ?_
    refine VRes.shl32i (N := b2 % 2 ^ 6) (s := 6) rfl rfl (by omega) (by omega) ?_
    (conv => whnf)
    refine VRes.or32i (N := c % 2 ^ 3 * 2 ^ 18 + b1 % 2 ^ 6 * 2 ^ 12) (M := b2 % 2 ^ 6 * 2 ^ 6) rfl rfl (by omega) (by omega) (or_add (x := c % 2 ^ 3 * 2 ^ 6 + b1 % 2 ^ 6) (k := 12) (by omega) (by omega)) ?_
    (conv => whnf)
    refine VRes.mask8 (x := b3) (k := 6) rfl (by omega) rfl (by omega) ?_
    (conv => whnf)
    refine VRes.i32 (by omega) ?_
    (conv => whnf)
    refine VRes.or32i (N := c % 2 ^ 3 * 2 ^ 18 + b1 % 2 ^ 6 * 2 ^ 12 + b2 % 2 ^ 6 * 2 ^ 6) (M := b3 % 2 ^ 6) rfl rfl (by omega) (by omega) (or_add (x := c % 2 ^ 3 * 2 ^ 12 + b1 % 2 ^ 6 * 2 ^ 6 + b2 % 2 ^ 6) (k := 6) (by omega) (by omega)) ?_
    (conv => whnf)
    subst hR
    exact ⟨rfl, kp⟩

theorem dec_ok (w : World) (hu : U8Ok w) (l : List UInt8) (hl : 0 < l.length) (hmax : l.length ≤ 1000000) :
    VC Tryd.prog 25 [.string (sb l)] w (fun v w' => v = .tuple #[.int .i32 ((decP l).1 : Nat), .int .i64 ((decP l).2 : Nat)] ∧ Keep No w w') := by
  refine VC.of tt_ok Tryd.func25 rfl (by decide +kernel) (Nat.le_of_ble_eq_true rfl) ?_; (conv => whnf)
  refine VCmp.mk (fun _ => ?_) (fun h => absurd (Decidable.not_not.1 h) (fun e => by have := congrArg ByteArray.size e; rw [sb_size] at this; have e0 : ByteArray.size (⟨#[]⟩ : ByteArray) = 0 := rfl; omega)); (conv => whnf)
  refine VIdxS.sb 0 rfl hl ?_
  (conv => whnf)
  by_cases hc : (l.getD 0 0).toNat < 128
  · have hd : decP l = ((l.getD 0 0).toNat, 1) := by unfold decP; rw [if_pos hc]
    refine VCmp.mk (fun _ => ?_) (fun h => absurd h (by omega)); (conv => whnf)
    refine VIdxS.sb 0 rfl hl ?_
    (conv => whnf)
    refine VRes.i32 (by omega) ?_
    (conv => whnf)
    rw [hd]
    exact ⟨rfl, Keep.refl _ _⟩
  · have hd : decP l = decR l.length (l.getD 0 0).toNat (l.getD 1 0).toNat (l.getD 2 0).toNat (l.getD 3 0).toNat := by unfold decP; rw [if_neg hc]
    refine VCmp.mk (fun h => absurd h (by omega)) (fun _ => ?_); (conv => whnf)
    refine (decSlow_ok w hu l hl hmax hc).mono ?_
    rintro v w1 ⟨rfl, k1⟩
    (conv => whnf)
    rw [hd]
    exact ⟨rfl, k1⟩
end Go.Proofs.YtoeijgbjgbgelaaDoor
