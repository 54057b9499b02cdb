/-
  Package bits: a reader of bytes, each one's lowest bit first.
-/
import Derived.Test.YtgmopcbfgcagaaaDoorB2
namespace Go.Proofs.YtgmopcbfgcagaaaDoor
open Go V

abbrev TRd : TypeId := 88
abbrev TOr : TypeId := 98
/-- The order of low bits first, as a method value. -/
abbrev lowF : Value := .func (.func 44) #[.agg #[.bool false]] #[]

/-- Block b is a reader of the bytes l, whose first at_ bits were read. -/
def RdV (w : World) (b : Nat) (A : Option Addr) (c : Nat) (l : List UInt8) (at_ : Nat) : Prop :=
  Blk w b TRd [.slice A l.length c, .int .i64 at_, lowF] ∧ Sl w 1 A l.length (l.map vb) ∧ l.length ≤ c
theorem RdV.keepNo {w w' : World} {b : Nat} {A : Option Addr} {c : Nat} {l : List UInt8} {at_ : Nat} (h : RdV w b A c l at_) (k : Keep No w w') : RdV w' b A c l at_ := ⟨h.1.keepNo k, h.2.1.keepNo k, h.2.2⟩
theorem RdV.keep {S : Nat → Prop} {w w' : World} {b : Nat} {A : Option Addr} {c : Nat} {l : List UInt8} {at_ : Nat} (h : RdV w b A c l at_) (k : Keep S w w') (h1 : ¬ S b) (h2 : ∀ a, A = some a → ¬ S a.block) : RdV w' b A c l at_ := ⟨h.1.keep k h1, h.2.1.keep k h2, h.2.2⟩

def bitL (l : List UInt8) (i : Nat) : Nat := (l.getD (i / 8) 0).toNat / 2 ^ (i % 8) % 2
/-- The number of k bits from a place on. -/
def numL (l : List UInt8) (at_ : Nat) : Nat → Nat
  | 0 => 0
  | k + 1 => numL l at_ k + bitL l (at_ + k) * 2 ^ k
theorem bitL_le (l : List UInt8) (i : Nat) : bitL l i ≤ 1 := by unfold bitL; omega
theorem numL_lt (l : List UInt8) (at_ k : Nat) : numL l at_ k < 2 ^ k := by
  induction k with
  | zero => simp [numL]
  | succ k ih =>
    have h1 := bitL_le l (at_ + k)
    have e : 2 ^ (k + 1) = 2 * 2 ^ k := by rw [Nat.pow_succ]; omega
    have : bitL l (at_ + k) * 2 ^ k ≤ 1 * 2 ^ k := Nat.mul_le_mul_right _ h1
    unfold numL
    omega

theorem at_ok (w : World) (k n : Int) : VC Tryd.prog 44 [.agg #[.bool false], .int .i64 k, .int .i64 n] w (fun v w' => v = .int .i64 k ∧ Keep No w w') := by
  refine VC.of tt_ok Tryd.func44 rfl (by decide +kernel) (Nat.le_of_ble_eq_true rfl) ?_; (conv => whnf)
  refine ⟨fun w1 hb1 kp => ?_⟩; have hb1_lt := Blk.lt hb1; have kp_sz := kp.size; (conv => whnf)
  (conv => whnf)
  refine VLoad.by_ (hb1.cell 0) ?_
  (conv => whnf)
  exact ⟨rfl, kp⟩

theorem made_ok (w : World) {b : Nat} {A : Option Addr} {c : Nat} {l : List UInt8} {at_ : Nat} (h : RdV w b A c l at_) :
    VC Tryd.prog 37 [.pointer (some ⟨b, 0, none⟩)] w (fun v w' => v = .bool true ∧ w' = w) := by
  refine VC.of tt_ok Tryd.func37 rfl (by decide +kernel) (Nat.le_of_ble_eq_true rfl) ?_; (conv => whnf)
  refine VLoad.by_ (h.1.cell 2) ?_
  (conv => whnf)
  exact ⟨rfl, rfl⟩

theorem rdLeft_ok (w : World) {b : Nat} {A : Option Addr} {c : Nat} {l : List UInt8} {at_ : Nat} (h : RdV w b A c l at_) (hn : l.length ≤ 100000000) (ha : at_ ≤ 1000000000) :
    VC Tryd.prog 22 [.pointer (some ⟨b, 0, none⟩)] w (fun v w' => v = .int .i64 (((8 * l.length : Nat) : Int) - (at_ : Int)) ∧ Keep No w w') := by
  refine VC.of tt_ok Tryd.func22 rfl (by decide +kernel) (Nat.le_of_ble_eq_true rfl) ?_; (conv => whnf)
  refine (made_ok w h).mono ?_
  rintro v w1 ⟨rfl, rfl⟩
  (conv => whnf)
  refine VDraw.by_ tt_ok rfl (.take 0 (.take 1 (.take 2 (.take 3 (.take 4 (.take 5 (.take 6 (.take 7 (.take 8 (.take 9 (.take 10 (.take 11 .done)))))))))))) (by decide +kernel) _ (fun x h1 h2 h3 h4 => Keep.ofHeap h1 h2 h3 h4) (fun wd hd kd => ?_)
  (conv => whnf)
  refine VLoad.keep (h.1.cell 0) ?_
  (conv => whnf)
  refine VRes.i64 (by omega) ?_; (conv => whnf)
  refine VLoad.keep (h.1.cell 1) ?_
  (conv => whnf)
  refine VRes.i64 (by omega) ?_; (conv => whnf)
  exact ⟨by rw [show (8 : Int) * (l.length : Int) = ((8 * l.length : Nat) : Int) from by omega]; rfl, kd⟩

theorem rdNumber_ok (w : World) {b : Nat} {A : Option Addr} {c : Nat} {l : List UInt8} {at_ n : Nat} (h : RdV w b A c l at_) (hn : l.length ≤ 100000000) (hle : at_ + n ≤ 8 * l.length) (h32 : n ≤ 32) :
    VC Tryd.prog 66 [.pointer (some ⟨b, 0, none⟩), .int .i64 n, .int .i64 n] w (fun v w' => v = .int .i64 (numL l at_ n : Nat) ∧ Keep No w w') := by
  refine VC.of tt_ok Tryd.func66 rfl (by decide +kernel) (Nat.le_of_ble_eq_true rfl) ?_; (conv => whnf)
  refine VLoop.by_ tt_ok (S := Nat) (fun k => [(0, .pointer (some ⟨b, 0, none⟩)), (2, .int .i64 n), (7, .int .i64 (numL l at_ k : Nat)), (11, .int .i64 n), (12, .int .i64 k)])
    (fun k w' => k ≤ n ∧ Keep No w w') (fun k => n - k) 0
    ⟨rfl, rfl, rfl, rfl, rfl, trivial⟩ ⟨by omega, Keep.refl _ _⟩ ?_
  rintro k w' ⟨hk, kk⟩
  have hr := h.keepNo kk
  (conv => whnf)
  refine VCmp.mk (fun h => ?_) (fun h => ?_) <;> (conv => whnf)
  rotate_left 1
  · obtain rfl : k = n := by omega
    exact ⟨rfl, kk⟩
  refine VLoad.by_ (hr.1.cell 1) ?_
  (conv => whnf)
  refine VRes.i64 (by omega) ?_; (conv => whnf)
  rw [show (at_ : Int) + (k : Int) = ((at_ + k : Nat) : Int) from by omega]
  have q1 : ((at_ + k : Nat) : Int).tdiv 8 = (((at_ + k) / 8 : Nat) : Int) := by rw [Int.tdiv_eq_ediv_of_nonneg (by omega)]; rfl
  have q2 : ((at_ + k : Nat) : Int).tmod 8 = (((at_ + k) % 8 : Nat) : Int) := by rw [Int.tmod_eq_emod_of_nonneg (by omega)]; rfl
  have hb8 := (l.getD ((at_ + k) / 8) 0).toNat_lt
  have hlt := numL_lt l at_ k
  have hp : 2 ^ k ≤ 2 ^ 32 := Nat.pow_le_pow_right (by omega) (by omega)
  have hbl := bitL_le l (at_ + k)
  have hbp : bitL l (at_ + k) * 2 ^ k ≤ 1 * 2 ^ k := Nat.mul_le_mul_right _ hbl
  refine VDraw.by_ tt_ok rfl (.take 0 (.take 1 (.take 2 (.take 3 (.take 4 (.take 5 (.take 6 (.take 7 (.take 8 (.take 9 (.take 10 (.take 11 (.take 12 (.take 13 (.take 14 (.one 15 (.take 16 (.take 17 (.take 18 .done))))))))))))))))))) (by decide +kernel) _ (fun x h1 h2 h3 h4 => Keep.ofHeap h1 h2 h3 h4) (fun wd hd kd => ?_)
  have kk := kk.trans kd
  (conv => whnf)
  refine VLoad.keep (hr.1.cell 0) ?_
  (conv => whnf)
  refine VReq.mk (by omega) ?_
  rw [q1]
  refine VRes.i64 (by omega) ?_; (conv => whnf)
  refine VIdx.sl (hr.2.1) ((at_ + k) / 8) (by first | rfl | omega) (by omega) (fun b_ o_ hA_ hc_ => ?_); (conv => whnf); refine VLoad.keep hc_ ?_; (conv => whnf)
  refine VRes.i64 (by omega) ?_
  (conv => whnf)
  refine VLoad.keep (hr.1.cell 2) ?_
  (conv => whnf)
  refine VReq.mk (by omega) ?_
  refine VRes.to (congrArg (Value.int .i64) q2) ?_
  (conv => whnf)
  refine (at_ok wd _ _).mono ?_
  rintro v w1 ⟨rfl, k1⟩
  have kk := kk.trans k1
  (conv => whnf)
  refine VOwe.same (kd.trans k1) ?_
  (conv => whnf)
  refine VReq.mk (by omega) ?_
  refine VRes.shrN (k := .i64) (N := (l.getD ((at_ + k) / 8) 0).toNat) (s := (at_ + k) % 8) rfl rfl (by show _ ≤ 64; omega) ?_
  have hdv : (l.getD ((at_ + k) / 8) 0).toNat / 2 ^ ((at_ + k) % 8) ≤ (l.getD ((at_ + k) / 8) 0).toNat := Nat.div_le_self _ _
  (conv => whnf)
  refine VRes.andNat (N := (l.getD ((at_ + k) / 8) 0).toNat / 2 ^ ((at_ + k) % 8)) (M := 1) (R := bitL l (at_ + k)) rfl rfl (by omega) (by omega) (Nat.and_one_is_mod _) ?_
  (conv => whnf)
  have hr := (hr.keepNo kd).keepNo k1
  refine VLoad.by_ (hr.1.cell 2) ?_
  (conv => whnf)
  refine (at_ok w1 _ _).mono ?_
  rintro v w2 ⟨rfl, k2⟩
  have kk := kk.trans k2
  (conv => whnf)
  refine VReq.mk (by omega) ?_
  refine VRes.shlNat (N := bitL l (at_ + k)) (s := k) rfl rfl (by omega) (by omega) ?_
  (conv => whnf)
  refine VRes.orNat (N := numL l at_ k) (M := bitL l (at_ + k) * 2 ^ k) (R := numL l at_ (k + 1)) rfl rfl (by omega) (by omega) (or_bit_lo hlt) ?_
  (conv => whnf)
  refine VRes.i64 (by omega) ?_; (conv => whnf)
  exact ⟨k + 1, ⟨rfl, rfl, rfl, rfl, rfl, trivial⟩, ⟨by omega, kk⟩, by omega⟩

theorem rdTake_ok (w : World) {b : Nat} {A : Option Addr} {c : Nat} {l : List UInt8} {at_ n : Nat} (h : RdV w b A c l at_) (hn : l.length ≤ 100000000) (ha : at_ ≤ 1000000000) (h32 : n ≤ 32) (hne : ∀ a, A = some a → a.block ≠ b) :
    VC Tryd.prog 45 [.pointer (some ⟨b, 0, none⟩), .int .i64 n] w
      (fun v w' => if at_ + n ≤ 8 * l.length then v = .tuple #[.int .i64 (numL l at_ n : Nat), .bool true] ∧ RdV w' b A c l (at_ + n) ∧ Keep (fun k => k = b) w w'
        else v = .tuple #[.int .i64 0, .bool false] ∧ Keep No w w') := by
  by_cases hle : at_ + n ≤ 8 * l.length
  · simp only [if_pos hle]
    refine VC.of tt_ok Tryd.func45 rfl (by decide +kernel) (Nat.le_of_ble_eq_true rfl) ?_; (conv => whnf)
    refine VCmp.mk (fun h => absurd h (by omega)) (fun _ => ?_); (conv => whnf)
    refine VCmp.mk (fun h => absurd h (by omega)) (fun _ => ?_); (conv => whnf)
    refine (rdLeft_ok w h hn ha).mono ?_
    rintro v w1 ⟨rfl, k1⟩
    (conv => whnf)
    refine VCmp.mk (fun h2 => absurd h2 (by omega)) (fun h2 => ?_); (conv => whnf)
    refine (made_ok w1 (h.keepNo k1)).mono ?_
    rintro v w2 ⟨rfl, rfl⟩
    (conv => whnf)
    refine (rdNumber_ok w2 (h.keepNo k1) hn hle h32).mono ?_
    rintro v w3 ⟨rfl, k3⟩
    (conv => whnf)
    obtain ⟨hb, hs, hc⟩ := (h.keepNo k1).keepNo k3
    refine VLoad.by_ (hb.cell 1) ?_
    (conv => whnf)
    refine VRes.i64 (by omega) ?_; (conv => whnf)
    refine VStore.one hb (by simp) ?_
    intro w4 hb4 k4 _
    (conv => whnf)
    refine ⟨rfl, ⟨?_, hs.keep k4 (fun a ha => hne a ha), hc⟩, (k1.trans k3).mono (fun _ _ h => h.elim) |>.trans k4⟩
    have : ((at_ : Int) + (n : Int)) = ((at_ + n : Nat) : Int) := by omega
    rw [this] at hb4
    exact hb4
  · simp only [if_neg hle]
    refine VC.of tt_ok Tryd.func45 rfl (by decide +kernel) (Nat.le_of_ble_eq_true rfl) ?_; (conv => whnf)
    refine VCmp.mk (fun h => absurd h (by omega)) (fun _ => ?_); (conv => whnf)
    refine VCmp.mk (fun h => absurd h (by omega)) (fun _ => ?_); (conv => whnf)
    refine (rdLeft_ok w h hn ha).mono ?_
    rintro v w1 ⟨rfl, k1⟩
    (conv => whnf)
    refine VCmp.mk (fun h2 => ?_) (fun h2 => absurd h2 (by omega)); (conv => whnf)
    exact ⟨rfl, k1⟩

theorem rdAlign_ok (w : World) {b : Nat} {A : Option Addr} {c : Nat} {l : List UInt8} {at_ : Nat} (h : RdV w b A c l at_) (ha : at_ ≤ 1000000000) (hne : ∀ a, A = some a → a.block ≠ b) :
    VC Tryd.prog 46 [.pointer (some ⟨b, 0, none⟩)] w (fun v w' => v = .tuple #[] ∧ RdV w' b A c l (alignP at_) ∧ Keep (fun k => k = b) w w') := by
  refine VC.of tt_ok Tryd.func46 rfl (by decide +kernel) (Nat.le_of_ble_eq_true rfl) ?_; (conv => whnf)
  refine (made_ok w h).mono ?_
  rintro v w1 ⟨rfl, rfl⟩
  obtain ⟨hb, hs, hc⟩ := h
  (conv => whnf)
  refine VLoad.by_ (hb.cell 1) ?_
  (conv => whnf)
  refine VRes.i64 (by omega) ?_; (conv => whnf)
  have q1 : ((at_ : Int) + 7).tdiv 8 = (((at_ + 7) / 8 : Nat) : Int) := by rw [Int.tdiv_eq_ediv_of_nonneg (by omega)]; rfl
  refine VReq.mk (by omega) ?_
  rw [q1]
  refine VRes.i64 (by omega) ?_; (conv => whnf)
  refine VRes.i64 (by omega) ?_; (conv => whnf)
  refine VStore.one hb (by simp) ?_
  intro w3 hb3 k3 _
  (conv => whnf)
  refine ⟨rfl, ⟨?_, hs.keep k3 (fun a ha => hne a ha), hc⟩, k3⟩
  have : ((((at_ + 7) / 8 : Nat) : Int) * 8) = ((alignP at_ : Nat) : Int) := by unfold alignP; omega
  rw [this] at hb3
  exact hb3

/-- n whole bytes, where the place is at a byte. -/
theorem rdBytes_ok (w : World) {b : Nat} {A : Option Addr} {c : Nat} {l : List UInt8} {p n : Nat} (h : RdV w b A c l (8 * p)) (hn : l.length ≤ 100000000) (hp : p ≤ l.length) (hn2 : n ≤ 1000000) (hne : ∀ a, A = some a → a.block ≠ b) :
    VC Tryd.prog 47 [.pointer (some ⟨b, 0, none⟩), .int .i64 n] w
      (fun v w' => (if p + n ≤ l.length then (∃ A' c', v = .tuple #[.slice A' n c', .bool true] ∧ Own w' w.heap.size T8 1 A' n c' (((l.take (p + n)).drop p).map vb)) ∧ RdV w' b A c l (8 * (p + n))
        else v = .tuple #[.slice none 0 0, .bool false] ∧ RdV w' b A c l (8 * p)) ∧ Keep (fun k => k = b) w w') := by
  have hal : alignP (8 * p) = 8 * p := by unfold alignP; omega
  refine VC.of tt_ok Tryd.func47 rfl (by decide +kernel) (Nat.le_of_ble_eq_true rfl) ?_; (conv => whnf)
  refine (rdAlign_ok w h (by omega) hne).mono ?_
  rintro v w1 ⟨rfl, h1, k1⟩
  rw [hal] at h1
  (conv => whnf)
  refine VCmp.mk (fun h => absurd h (by omega)) (fun _ => ?_); (conv => whnf)
  refine (rdLeft_ok w1 h1 hn (by omega)).mono ?_
  rintro v w2 ⟨rfl, k2⟩
  have kp : Keep (fun k => k = b) w w2 := k1.trans (k2.mono fun _ _ h => h.elim)
  have q : (((8 * l.length : Nat) : Int) - ((8 * p : Nat) : Int)).tdiv 8 = ((l.length - p : Nat) : Int) := by rw [Int.tdiv_eq_ediv_of_nonneg (by omega)]; omega
  (conv => whnf)
  refine VReq.mk (by omega) ?_
  rw [q]
  refine VRes.i64 (by omega) ?_; (conv => whnf)
  refine VCmp.mk (fun h2 => ?_) (fun h2 => ?_) <;> (conv => whnf)
  · rw [if_neg (by omega)]
    exact ⟨⟨rfl, h1.keepNo k2⟩, kp⟩
  have hle : p + n ≤ l.length := by omega
  refine (made_ok w2 (h1.keepNo k2)).mono ?_
  rintro v w3 ⟨rfl, rfl⟩
  obtain ⟨hb, hs, hc⟩ := h1.keepNo k2
  (conv => whnf)
  refine VLoad.by_ (hb.cell 1) ?_
  (conv => whnf)
  refine VReq.mk (by omega) ?_
  have q8 : ((8 * p : Nat) : Int).tdiv 8 = (p : Int) := by rw [Int.tdiv_eq_ediv_of_nonneg (by omega)]; omega
  rw [q8]
  refine VRes.i64 (by omega) ?_; (conv => whnf)
  refine VLoad.by_ (hb.cell 1) ?_
  (conv => whnf)
  refine VRes.i64 (by omega) ?_; (conv => whnf)
  refine VRes.i64 (by omega) ?_; (conv => whnf)
  refine VStore.one hb (by simp) ?_
  intro w4 hb4 k4 _
  have hs := hs.keep k4 (fun a ha => hne a ha)
  rw [show ((8 * p : Nat) : Int) + 8 * (n : Int) = ((8 * (p + n) : Nat) : Int) from by omega] at hb4
  have hb4 : Blk w4 b TRd [.slice A l.length c, .int .i64 ((8 * (p + n) : Nat) : Int), lowF] := hb4
  have kp := kp.trans k4
  (conv => whnf)
  refine VLoad.by_ (hb4.cell 0) ?_
  (conv => whnf)
  refine VRes.i64 (by omega) ?_; (conv => whnf)
  refine VCut.by_ p (p + n) rfl (by omega) (by omega) (by omega) ?_
  intro A5 hA5
  have h5 := Sl.cut8 hs (l := p) (h := p + n) (by omega) hle hc (A' := A5) hA5
  (conv => whnf)
  refine VApp.own tt_ok (it := ty22) (ei := ty5) rfl rfl rfl (size := 1) rfl rfl (by omega) (Own.nil w4 w.heap.size T8 1) h5 (one8 _) (by show (0 + (p + n - p)) * 1 ≤ _; omega) (by omega) kp.size ?_
  intro A6 c6 w6 ho6 k6 _
  have k6 : Keep No w4 w6 := k6.mono (fun i _ ⟨a, ha, e⟩ => by cases ha)
  (conv => whnf)
  rw [if_pos hle]
  have e : 0 + (p + n - p) = n := by omega
  rw [e] at ho6
  rw [List.nil_append] at ho6
  exact ⟨⟨⟨A6, c6, by rw [e]; rfl, ho6⟩, hb4.keepNo k6, hs.keepNo k6, hc⟩, kp.trans (k6.mono fun _ _ h => h.elim)⟩

/-- A reader of bytes. -/
theorem newReader_ok (w : World) {A : Option Addr} {n c : Nat} {l : List UInt8} (hs : Sl w 1 A n (l.map vb)) (hn : n ≤ 1000000) :
    VC Tryd.prog 29 [.slice A n c, .bool false] w (fun v w' => (∃ b A' c', v = .pointer (some ⟨b, 0, none⟩) ∧ RdV w' b A' c' l 0 ∧ w.heap.size ≤ b ∧ (∀ a, A' = some a → w.heap.size ≤ a.block ∧ a.block ≠ b ∧ Ty w' a.block T8)) ∧ Keep No w w') := by
  have hl : l.length = n := by simpa using hs.len
  refine VC.of tt_ok Tryd.func29 rfl (by decide +kernel) (Nat.le_of_ble_eq_true rfl) ?_; (conv => whnf)
  refine VApp.own tt_ok (it := ty22) (ei := ty5) rfl rfl rfl (size := 1) rfl rfl (by omega) (Own.nil w w.heap.size T8 1) hs (one8 l) (by show (0 + n) * 1 ≤ _; omega) (by omega) (Nat.le_refl _) ?_
  intro A1 c1 w1 ho1 k1 _
  have kp : Keep No w w1 := k1.mono (fun i _ ⟨a, ha, e⟩ => by cases ha)
  have e : 0 + n = n := by omega
  rw [e, List.nil_append] at ho1
  rw [e]
  (conv => whnf)
  refine VFill.by_ rfl ?_; (conv => whnf)
  (conv => whnf)
  refine VFill.by_ rfl ?_; (conv => whnf)
  refine ⟨fun w2 hb2 k2 => ?_⟩
  (conv => whnf)
  subst hl
  exact ⟨⟨w1.heap.size, A1, c1, rfl, ⟨hb2, (Sl.ofOwn ho1).keepNo k2, ho1.le⟩, kp.size, fun a ha => ⟨(ho1.base_ ha).1, by have := (ho1.base_ ha).2; omega, (ho1.ty ha).keepNo k2⟩⟩, kp.trans k2⟩
end Go.Proofs.YtgmopcbfgcagaaaDoor
