/-
  The reference's bits: how many are left, a number of some, the next whole byte.
-/
import Derived.Test.YtgmopcbfgcagaaaDoorVr
namespace Go.Proofs.YtgmopcbfgcagaaaDoor
open Go V

abbrev TBits : TypeId := 91

/-- Block b is a row of bits B, read up to 'at', in slice A. -/
def BitsV (w : World) (b : Nat) (A : Option Addr) (c : Nat) (B : List UInt8) (at_ : Nat) (hi : Bool) : Prop :=
  Blk w b TBits [.slice A B.length c, .int .i64 at_, .bool hi] ∧ Sl w 1 A B.length (B.map vb)
theorem BitsV.keepNo {w w' : World} {b : Nat} {A : Option Addr} {c : Nat} {B : List UInt8} {at_ : Nat} {hi : Bool} (h : BitsV w b A c B at_ hi) (k : Keep No w w') : BitsV w' b A c B at_ hi :=
  ⟨h.1.keepNo k, h.2.keepNo k⟩

theorem Keep.andThen {S T : Nat → Prop} {w0 w w' : World} (h0 : Keep S w0 w) (k : Keep T w w') (hs : ∀ i, i < w0.heap.size → T i → S i) : Keep S w0 w' :=
  ⟨k.os.trans h0.os, k.tape.trans h0.tape, k.output.trans h0.output, Nat.le_trans h0.size k.size, fun i hi hS => by
    rw [k.block i (Nat.lt_of_lt_of_le hi h0.size) (fun hT => hS (hs i hi hT)), h0.block i hi hS]⟩
theorem VRes.orNat {N M R : Nat} {a l : Int} {K : Value → Prop} (ha : a = (N : Int)) (hl : l = (M : Int)) (hN : N < 2 ^ 62) (hM : M < 2 ^ 62) (hR : N ||| M = R) (hK : K (.int .i64 (R : Int))) :
    VRes (.int .i64 (IntKind.wrap .i64 ((BitVec.ofInt (IntKind.bits .i64) a ||| BitVec.ofInt (IntKind.bits .i64) l).toNat : Int))) K := by
  subst ha; subst hl; subst hR
  refine VRes.to (congrArg (Value.int .i64) ?_) hK
  show IntKind.wrap .i64 ((BitVec.ofInt 64 (N : Int) ||| BitVec.ofInt 64 (M : Int)).toNat : Int) = _
  rw [BitVec.ofInt_natCast, BitVec.ofInt_natCast, BitVec.toNat_or, BitVec.toNat_ofNat, BitVec.toNat_ofNat, Nat.mod_eq_of_lt (by omega), Nat.mod_eq_of_lt (by omega)]
  have := Nat.or_lt_two_pow hN hM
  exact wrap_i64 (by omega)
theorem VRes.xorNat {N M R : Nat} {a l : Int} {K : Value → Prop} (ha : a = (N : Int)) (hl : l = (M : Int)) (hN : N < 2 ^ 62) (hM : M < 2 ^ 62) (hR : N ^^^ M = R) (hK : K (.int .i64 (R : Int))) :
    VRes (.int .i64 (IntKind.wrap .i64 ((BitVec.ofInt (IntKind.bits .i64) a ^^^ BitVec.ofInt (IntKind.bits .i64) l).toNat : Int))) K := by
  subst ha; subst hl; subst hR
  refine VRes.to (congrArg (Value.int .i64) ?_) hK
  show IntKind.wrap .i64 ((BitVec.ofInt 64 (N : Int) ^^^ BitVec.ofInt 64 (M : Int)).toNat : Int) = _
  rw [BitVec.ofInt_natCast, BitVec.ofInt_natCast, BitVec.toNat_xor, BitVec.toNat_ofNat, BitVec.toNat_ofNat, Nat.mod_eq_of_lt (by omega), Nat.mod_eq_of_lt (by omega)]
  have := Nat.xor_lt_two_pow hN hM
  exact wrap_i64 (by omega)
theorem VRes.andNat {N M R : Nat} {a l : Int} {K : Value → Prop} (ha : a = (N : Int)) (hl : l = (M : Int)) (hN : N < 2 ^ 62) (hM : M < 2 ^ 62) (hR : N &&& M = R) (hK : K (.int .i64 (R : Int))) :
    VRes (.int .i64 (IntKind.wrap .i64 ((BitVec.ofInt (IntKind.bits .i64) a &&& BitVec.ofInt (IntKind.bits .i64) l).toNat : Int))) K := by
  subst ha; subst hl; subst hR
  refine VRes.to (congrArg (Value.int .i64) ?_) hK
  show IntKind.wrap .i64 ((BitVec.ofInt 64 (N : Int) &&& BitVec.ofInt 64 (M : Int)).toNat : Int) = _
  rw [BitVec.ofInt_natCast, BitVec.ofInt_natCast, BitVec.toNat_and, BitVec.toNat_ofNat, BitVec.toNat_ofNat, Nat.mod_eq_of_lt (by omega), Nat.mod_eq_of_lt (by omega)]
  have : N &&& M ≤ N := Nat.and_le_left
  exact wrap_i64 (by omega)
/-- A shift left of a natural number. -/
theorem VRes.shlNat {N s : Nat} {a l : Int} {K : Value → Prop} (ha : a = (N : Int)) (hl : l = (s : Int)) (hs : s ≤ 64) (hR : N * 2 ^ s < 2 ^ 62) (hK : K (.int .i64 ((N * 2 ^ s : Nat) : Int))) :
    VRes (.int .i64 (IntKind.wrap .i64 (a * 2 ^ (min l.toNat (IntKind.bits .i64))))) K := by
  subst ha; subst hl
  refine VRes.to (congrArg (Value.int .i64) ?_) hK
  have e : min (Int.toNat (s : Int)) (IntKind.bits .i64) = s := by
    have : IntKind.bits .i64 = 64 := rfl
    rw [this, Int.toNat_natCast]; omega
  rw [e]
  have e2 : (N : Int) * 2 ^ s = ((N * 2 ^ s : Nat) : Int) := by simp
  rw [e2]
  exact wrap_i64 (by omega)

theorem bitsLeft_ok (w : World) {b : Nat} {A : Option Addr} {c : Nat} {B : List UInt8} {at_ : Nat} {hi : Bool} (h : BitsV w b A c B at_ hi) (hn : B.length ≤ 1000000000) (ha : at_ ≤ 1000000000) :
    VC Tryd.prog 25 [.pointer (some ⟨b, 0, none⟩)] w (fun v w' => v = .int .i64 ((B.length : Int) - (at_ : Int)) ∧ Keep No w w') := by
  obtain ⟨hb, hs⟩ := h
  refine VC.of tt_ok Tryd.func25 rfl (by decide +kernel) (Nat.le_of_ble_eq_true rfl) ?_; (conv => whnf)
  refine VDraw.by_ tt_ok rfl (.take 0 (.take 1 (.take 2 (.take 3 (.take 4 (.take 5 (.take 6 (.take 7 (.take 8 (.take 9 (.take 10 .done))))))))))) (by decide +kernel) _ (fun x h1 h2 h3 h4 => Keep.ofHeap h1 h2 h3 h4) (fun wd hd kd => ?_)
  (conv => whnf)
  refine VLoad.keep (hb.cell 0) ?_
  (conv => whnf)
  refine VLoad.keep (hb.cell 1) ?_
  (conv => whnf)
  refine VRes.i64 (by omega) ?_; (conv => whnf)
  exact ⟨rfl, kd⟩

/-- The number of k bits from a place on. -/
def numK (hi : Bool) (B : List UInt8) (at_ : Nat) : Nat → Nat
  | 0 => 0
  | k + 1 => if hi then 2 * numK hi B at_ k + (B.getD (at_ + k) 0).toNat else numK hi B at_ k + (B.getD (at_ + k) 0).toNat * 2 ^ k
def bitsOnly (l : List UInt8) : Prop := ∀ x ∈ l, x.toNat ≤ 1
theorem bitsOnly.at_ {l : List UInt8} (h : bitsOnly l) (i : Nat) : (l.getD i 0).toNat ≤ 1 := by
  rw [List.getD_eq_getElem?_getD]
  rcases Nat.lt_or_ge i l.length with h1 | h1
  · rw [List.getElem?_eq_getElem h1]; exact h _ (List.getElem_mem h1)
  · rw [List.getElem?_eq_none h1]; decide
theorem numK_lt (hi : Bool) {B : List UInt8} (hB : bitsOnly B) (at_ k : Nat) : numK hi B at_ k < 2 ^ k := by
  induction k with
  | zero => simp [numK]
  | succ k ih =>
    have h1 := hB.at_ (at_ + k)
    have e : 2 ^ (k + 1) = 2 * 2 ^ k := by rw [Nat.pow_succ]; omega
    unfold numK
    split
    · omega
    · have : (B.getD (at_ + k) 0).toNat * 2 ^ k ≤ 1 * 2 ^ k := Nat.mul_le_mul_right _ h1
      omega
theorem or_bit_hi {N x : Nat} (hx : x ≤ 1) : N * 2 ^ 1 ||| x = 2 * N + x := by
  have := Nat.shiftLeft_add_eq_or_of_lt (a := N) (b := x) (i := 1) (by omega)
  rw [Nat.shiftLeft_eq] at this
  omega
theorem or_bit_lo {N x k : Nat} (hN : N < 2 ^ k) : N ||| x * 2 ^ k = N + x * 2 ^ k := by
  have := Nat.shiftLeft_add_eq_or_of_lt (a := x) (b := N) (i := k) hN
  rw [Nat.shiftLeft_eq] at this
  rw [Nat.or_comm, ← this, Nat.add_comm]

theorem bitsNumber_ok (w : World) {b : Nat} {A : Option Addr} {c : Nat} {B : List UInt8} {at_ n : Nat} {hi : Bool} (h : BitsV w b A c B at_ hi) (hB : bitsOnly B) (hn : B.length ≤ 1000000000) (hle : at_ + n ≤ B.length) (h32 : n ≤ 32) :
    VC Tryd.prog 75 [.pointer (some ⟨b, 0, none⟩), .int .i64 n] w (fun v w' => v = .int .i64 (numK hi B at_ n : Nat) ∧ Keep No w w') := by
  refine VC.of tt_ok Tryd.func75 rfl (by decide +kernel) (Nat.le_of_ble_eq_true rfl) ?_; (conv => whnf)
  refine VLoop.by_ tt_ok (S := Nat) (fun k => [(0, .pointer (some ⟨b, 0, none⟩)), (1, .int .i64 n), (5, .int .i64 (numK hi B at_ k : Nat)), (6, .int .i64 k)])
    (fun k w' => k ≤ n ∧ Keep No w w') (fun k => n - k) 0
    ⟨rfl, rfl, rfl, rfl, trivial⟩ ⟨by omega, Keep.refl _ _⟩ ?_
  rintro k w' ⟨hk, kk⟩
  obtain ⟨hb, hs⟩ := h.keepNo kk
  (conv => whnf)
  refine VCmp.mk (fun h => ?_) (fun h => ?_) <;> (conv => whnf)
  rotate_left 1
  · obtain rfl : k = n := by omega
    exact ⟨rfl, kk⟩
  have hx := hB.at_ (at_ + k)
  have hlt := numK_lt hi hB at_ k
  have hp : 2 ^ k ≤ 2 ^ 32 := Nat.pow_le_pow_right (by omega) (by omega)
  have hxp : (B.getD (at_ + k) 0).toNat * 2 ^ k ≤ 1 * 2 ^ k := Nat.mul_le_mul_right _ hx
  refine VDraw.by_ tt_ok rfl (.take 0 (.take 1 (.take 2 (.take 3 (.take 4 (.take 5 (.take 6 (.take 7 (.take 8 (.take 9 (.take 10 (.take 11 .done)))))))))))) (by decide +kernel) _ (fun x h1 h2 h3 h4 => Keep.ofHeap h1 h2 h3 h4) (fun wd hd kd => ?_)
  have kk := kk.trans kd
  (conv => whnf)
  refine VLoad.keep (hb.cell 1) ?_
  (conv => whnf)
  refine VRes.i64 (by omega) ?_; (conv => whnf)
  refine VLoad.keep (hb.cell 0) ?_
  (conv => whnf)
  refine VCmp.mk (fun h2 => ?_) (fun h2 => absurd h2 (by omega)); (conv => whnf)
  have hb := hb.keepNo kd
  have hs := hs.keepNo kd
  refine VDraw.by_ tt_ok rfl (.take 0 (.take 1 (.take 2 (.take 3 (.take 4 (.take 5 (.take 6 (.take 7 (.take 8 (.take 9 (.take 10 (.take 11 (.take 12 (.take 13 .done)))))))))))))) (by decide +kernel) _ (fun x h1 h2 h3 h4 => Keep.ofHeap h1 h2 h3 h4) (fun wd hd kd => ?_)
  have kk := kk.trans kd
  (conv => whnf)
  refine VLoad.keep (hb.cell 0) ?_
  (conv => whnf)
  refine VLoad.keep (hb.cell 1) ?_
  (conv => whnf)
  refine VRes.i64 (by omega) ?_; (conv => whnf)
  refine VIdx.sl (hs) (at_ + k) (by first | rfl | omega) (by omega) (fun b_ o_ hA_ hc_ => ?_); (conv => whnf); refine VLoad.keep hc_ ?_; (conv => whnf)
  refine VRes.i64 (by omega) ?_
  (conv => whnf)
  have hb := hb.keepNo kd
  refine VLoad.by_ (hb.cell 2) ?_
  cases hi with
  | true =>
    (conv => whnf)
    refine VReq.mk (by omega) ?_
    refine VRes.shlNat (N := numK true B at_ k) (s := 1) rfl rfl (by omega) (by omega) ?_
    (conv => whnf)
    refine VRes.orNat (N := numK true B at_ k * 2 ^ 1) (M := (B.getD (at_ + k) 0).toNat) (R := numK true B at_ (k + 1)) rfl rfl (by omega) (by omega) (or_bit_hi hx) ?_
    (conv => whnf)
    refine VRes.i64 (by omega) ?_; (conv => whnf)
    exact ⟨k + 1, ⟨rfl, rfl, rfl, rfl, trivial⟩, ⟨by omega, kk⟩, by omega⟩
  | false =>
    (conv => whnf)
    refine VRes.u64 (by omega) ?_
    (conv => whnf)
    refine VReq.mk (by omega) ?_
    refine VRes.shlNat (N := (B.getD (at_ + k) 0).toNat) (s := k) rfl rfl (by omega) (by omega) ?_
    (conv => whnf)
    refine VRes.orNat (N := numK false B at_ k) (M := (B.getD (at_ + k) 0).toNat * 2 ^ k) (R := numK false B at_ (k + 1)) rfl rfl (by omega) (by omega) (or_bit_lo hlt) ?_
    (conv => whnf)
    refine VRes.i64 (by omega) ?_; (conv => whnf)
    exact ⟨k + 1, ⟨rfl, rfl, rfl, rfl, trivial⟩, ⟨by omega, kk⟩, by omega⟩

theorem bitsTake_ok (w : World) {b : Nat} {A : Option Addr} {c : Nat} {B : List UInt8} {at_ n : Nat} {hi : Bool} (h : BitsV w b A c B at_ hi) (hB : bitsOnly B) (hn : B.length ≤ 1000000000) (ha : at_ ≤ 1000000000) (h32 : n ≤ 32) (hne : ∀ a, A = some a → a.block ≠ b) :
    VC Tryd.prog 59 [.pointer (some ⟨b, 0, none⟩), .int .i64 n] w
      (fun v w' => if at_ + n ≤ B.length then v = .tuple #[.int .i64 (numK hi B at_ n : Nat), .bool true] ∧ BitsV w' b A c B (at_ + n) hi ∧ Keep (fun k => k = b) w w'
        else v = .tuple #[.int .i64 0, .bool false] ∧ Keep No w w') := by
  by_cases hle : at_ + n ≤ B.length
  · simp only [if_pos hle]
    refine VC.of tt_ok Tryd.func59 rfl (by decide +kernel) (Nat.le_of_ble_eq_true rfl) ?_; (conv => whnf)
    refine VCmp.mk (fun h => absurd h (by omega)) (fun _ => ?_); (conv => whnf)
    refine VCmp.mk (fun h => absurd h (by omega)) (fun _ => ?_); (conv => whnf)
    refine (bitsLeft_ok w h hn ha).mono ?_
    rintro v w1 ⟨rfl, k1⟩
    (conv => whnf)
    refine VCmp.mk (fun h2 => absurd h2 (by omega)) (fun h2 => ?_); (conv => whnf)
    refine (bitsNumber_ok w1 (h.keepNo k1) hB hn hle h32).mono ?_
    rintro v w2 ⟨rfl, k2⟩
    (conv => whnf)
    obtain ⟨hb, hs⟩ := (h.keepNo k1).keepNo k2
    refine VLoad.by_ (hb.cell 1) ?_
    (conv => whnf)
    refine VRes.i64 (by omega) ?_; (conv => whnf)
    refine VStore.one hb (by simp) ?_
    intro w3 hb3 k3 _
    (conv => whnf)
    refine ⟨rfl, ⟨?_, hs.keep k3 (fun a ha => hne a ha)⟩, (k1.trans k2).mono (fun _ _ h => h.elim) |>.trans k3⟩
    have : ((at_ : Int) + (n : Int)) = ((at_ + n : Nat) : Int) := by omega
    rw [this] at hb3
    exact hb3
  · simp only [if_neg hle]
    refine VC.of tt_ok Tryd.func59 rfl (by decide +kernel) (Nat.le_of_ble_eq_true rfl) ?_; (conv => whnf)
    refine VCmp.mk (fun h => absurd h (by omega)) (fun _ => ?_); (conv => whnf)
    refine VCmp.mk (fun h => absurd h (by omega)) (fun _ => ?_); (conv => whnf)
    refine (bitsLeft_ok w h hn ha).mono ?_
    rintro v w1 ⟨rfl, k1⟩
    (conv => whnf)
    refine VCmp.mk (fun h2 => ?_) (fun h2 => absurd h2 (by omega)); (conv => whnf)
    exact ⟨rfl, k1⟩

/-- The place behind the byte that was begun. -/
def alignP (k : Nat) : Nat := (k + 7) / 8 * 8
theorem bitsAlign_ok (w : World) {b : Nat} {A : Option Addr} {c : Nat} {B : List UInt8} {at_ : Nat} {hi : Bool} (h : BitsV w b A c B at_ hi) (ha : at_ ≤ 1000000000) (hne : ∀ a, A = some a → a.block ≠ b) :
    VC Tryd.prog 60 [.pointer (some ⟨b, 0, none⟩)] w (fun v w' => v = .tuple #[] ∧ BitsV w' b A c B (alignP at_) hi ∧ Keep (fun k => k = b) w w') := by
  obtain ⟨hb, hs⟩ := h
  refine VC.of tt_ok Tryd.func60 rfl (by decide +kernel) (Nat.le_of_ble_eq_true rfl) ?_; (conv => whnf)
  refine VLoad.by_ (hb.cell 1) ?_
  (conv => whnf)
  refine VRes.i64 (by omega) ?_; (conv => whnf)
  have q1 : ((at_ : Int) + 7).tdiv 8 = (((at_ + 7) / 8 : Nat) : Int) := by rw [Int.tdiv_eq_ediv_of_nonneg (by omega)]; rfl
  refine VReq.mk (by omega) ?_
  rw [q1]
  refine VRes.i64 (by omega) ?_; (conv => whnf)
  refine VRes.i64 (by omega) ?_; (conv => whnf)
  refine VStore.one hb (by simp) ?_
  intro w3 hb3 k3 _
  (conv => whnf)
  refine ⟨rfl, ⟨?_, hs.keep k3 (fun a ha => hne a ha)⟩, k3⟩
  have : ((((at_ + 7) / 8 : Nat) : Int) * 8) = ((alignP at_ : Nat) : Int) := by unfold alignP; omega
  rw [this] at hb3
  exact hb3
end Go.Proofs.YtgmopcbfgcagaaaDoor
