/-
  The reference's bits: all bytes.
-/
import Derived.Test.YtififgodhnelgaaB2
namespace Go.Proofs.Ytififgodhnelgaa
open Go V

def bytesR (hi : Bool) (B : List UInt8) (at_ n : Nat) : List UInt8 := (List.range n).map fun i => UInt8.ofNat (numK hi B (at_ + 8 * i) 8)
theorem bytesR_snoc (hi : Bool) (B : List UInt8) (at_ k : Nat) : bytesR hi B at_ (k + 1) = bytesR hi B at_ k ++ [UInt8.ofNat (numK hi B (at_ + 8 * k) 8)] := by
  unfold bytesR; rw [List.range_succ, List.map_append]; rfl

theorem bitsBytes_ok (w : World) {b : Nat} {A : Option Addr} {c n : Nat} {B : List UInt8} {hi : Bool} (h : BitsV w b A c B 0 hi) (hB : bitsOnly B) (hn : B.length = 8 * n) (hm : n ≤ 1000000) (hne : ∀ a, A = some a → a.block ≠ b) :
    VC Try.prog 62 [.pointer (some ⟨b, 0, none⟩), .int .i64 n] w
      (fun v w' => (∃ A' c', v = .tuple #[.slice A' n c', .bool true] ∧ Own w' w.heap.size T8 1 A' n c' ((bytesR hi B 0 n).map vb)) ∧ Keep (fun k => k = b) w w') := by
  refine VC.of tt_ok Try.func62 rfl (by decide +kernel) (Nat.le_of_ble_eq_true rfl) ?_; (conv => whnf)
  refine (bitsAlign_ok w h (by omega) hne).mono ?_
  rintro v w1 ⟨rfl, hb, k1⟩
  have hlt := Blk.lt h.1
  have hsl := h.2
  (conv => whnf)
  refine VCmp.mk (fun h => absurd h (by omega)) (fun _ => ?_); (conv => whnf)
  refine (bitsLeft_ok w1 hb (by omega) (by show (0 + 7) / 8 * 8 ≤ _; omega)).mono ?_
  rintro v w2 ⟨rfl, k2⟩
  have hb := hb.keepNo k2
  have e0 : ((B.length : Int) - ((alignP 0 : Nat) : Int)) = ((8 * n : Nat) : Int) := by rw [hn]; show _ - (((0 + 7) / 8 * 8 : Nat) : Int) = _; omega
  rw [e0]
  (conv => whnf)
  refine VReq.mk (by omega) ?_
  have q : (((8 * n : Nat) : Int)).tdiv 8 = (n : Int) := by rw [Int.tdiv_eq_ediv_of_nonneg (by omega)]; omega
  rw [q]
  refine VRes.i64 (by omega) ?_; (conv => whnf)
  refine VCmp.mk (fun h => absurd h (by omega)) (fun _ => ?_); (conv => whnf)
  have kk : Keep (fun k => k = b) w w2 := k1.trans (k2.mono fun _ _ h => h.elim)
  refine VLoop.by_ tt_ok (S := Nat × Option Addr × Nat) (fun | (k, Al, cl) => [(0, .pointer (some ⟨b, 0, none⟩)), (1, .int .i64 n), (6, .slice Al k cl), (7, .int .i64 k)])
    (fun | (k, Al, cl) => fun w' => k ≤ n ∧ Own w' w.heap.size T8 1 Al k cl ((bytesR hi B 0 k).map vb) ∧ BitsV w' b A c B (8 * k) hi ∧ Keep (fun k => k = b) w w') (fun | (k, _, _) => n - k)
    (0, none, 0) ⟨rfl, rfl, rfl, rfl, trivial⟩ ⟨by omega, Own.nil _ _ _ _, hb, kk⟩ ?_
  rintro ⟨k, Al, cl⟩ w' ⟨hk, hown, hb, kk⟩
  (conv => whnf)
  refine VCmp.mk (fun h => ?_) (fun h => ?_) <;> (conv => whnf)
  rotate_left 1
  · obtain rfl : k = n := by omega
    exact ⟨⟨Al, cl, rfl, hown⟩, kk⟩
  refine (bitsTake_ok w' (n := 8) hb hB (by omega) (by omega) (by omega) hne).mono ?_
  rintro v w3 hv
  rw [if_pos (by omega)] at hv
  obtain ⟨rfl, hb3, k3⟩ := hv
  have kk := kk.trans k3
  have hown := hown.keep k3 (fun a ha e => by have := (hown.base_ ha).1; omega)
  (conv => whnf)
  refine VRes.byte (N := numK hi B (8 * k) 8) rfl ?_
  (conv => whnf)
  refine VFill.by_ rfl ?_; (conv => whnf)
  refine ⟨fun w4 hb4 k4 => ?_⟩
  have hown := hown.keepNo k4
  have hb3 := hb3.keepNo k4
  have kk := kk.keepNo k4
  (conv => whnf)
  refine VApp.own tt_ok (it := ty22) (ei := ty5) rfl rfl rfl (size := 1) rfl rfl (by omega) hown (Sl.ofBlk (n := 1) (size := 1) hb4 rfl) (one8 [UInt8.ofNat (numK hi B (8 * k) 8)]) (by show (k + 1) * 1 ≤ _; omega) (by omega) kk.size ?_
  intro A5 c5 w5 ho5 k5 hat
  have hsep : ∀ a, A = some a → ¬ ownS Al a.block := fun a ha ⟨a2, ha2, e⟩ => by
    have h1 := (hown.base_ ha2).1
    have h2 : a.block < w.heap.size := by
      exact Sl.lt hsl (by omega) ha
    omega
  have hnb : ¬ ownS Al b := fun ⟨a2, ha2, e⟩ => by
    have h1 := (hown.base_ ha2).1
    omega
  have hb5 : BitsV w5 b A c B (8 * k + 8) hi := ⟨hb3.1.keep k5 hnb, hb3.2.keep k5 hsep⟩
  have kk := Keep.andThen kk k5 (fun i hi ⟨a, ha, e⟩ => by have := (hown.base_ ha).1; omega)
  (conv => whnf)
  refine VRes.i64 (by omega) ?_; (conv => whnf)
  exact ⟨(k + 1, A5, c5), ⟨rfl, rfl, rfl, rfl, trivial⟩, ⟨by omega, by rw [bytesR_snoc, List.map_append, Nat.zero_add]; exact ho5, by simpa [Nat.mul_add] using hb5, kk⟩, by dsimp only; omega⟩

theorem bitsFill_ok (w : World) {b : Nat} {A : Option Addr} {c : Nat} {B : List UInt8} {at_ : Nat} {hi : Bool} (h : BitsV w b A c B at_ hi) (h8 : B.length % 8 = 0) :
    VC Try.prog 61 [.pointer (some ⟨b, 0, none⟩)] w (fun v w' => v = .tuple #[] ∧ w' = w) := by
  refine VC.of tt_ok Try.func61 rfl (by decide +kernel) (Nat.le_of_ble_eq_true rfl) ?_; (conv => whnf)
  refine VLoop.by_ tt_ok (S := Unit) (fun _ => [(0, .pointer (some ⟨b, 0, none⟩))]) (fun _ w' => w' = w) (fun _ => 0) () ⟨rfl, trivial⟩ rfl ?_
  rintro _ w' rfl
  (conv => whnf)
  refine VLoad.by_ (h.1.cell 0) ?_
  (conv => whnf)
  refine VReq.mk (by omega) ?_
  have q : (B.length : Int).tmod 8 = ((B.length % 8 : Nat) : Int) := by rw [Int.tmod_eq_emod_of_nonneg (by omega)]; rfl
  refine VRes.to (congrArg (Value.int .i64) q) ?_
  (conv => whnf)
  refine VCmp.mk (fun h => absurd h8 (by omega)) (fun _ => ?_); (conv => whnf)
  exact ⟨rfl, rfl⟩

/-- All bytes of bits that are whole bytes. -/
theorem bitsOut_ok (w : World) {b : Nat} {A : Option Addr} {c n : Nat} {B : List UInt8} {at_ : Nat} {hi : Bool} (h : BitsV w b A c B at_ hi) (hB : bitsOnly B) (hn : B.length = 8 * n) (hm : n ≤ 100000) :
    VC Try.prog 49 [.pointer (some ⟨b, 0, none⟩)] w
      (fun v w' => (∃ A' c', v = .slice A' n c' ∧ Own w' w.heap.size T8 1 A' n c' ((bytesR hi B 0 n).map vb)) ∧ Keep No w w') := by
  obtain ⟨hb, hs⟩ := h
  refine VC.of tt_ok Try.func49 rfl (by decide +kernel) (Nat.le_of_ble_eq_true rfl) ?_; (conv => whnf)
  refine VLoad.by_ (hb.cell 2) ?_
  (conv => whnf)
  refine VFill.by_ rfl ?_; (conv => whnf)
  refine ⟨fun w1 hb1 kp => ?_⟩; have hb1_lt := Blk.lt hb1; have kp_sz := kp.size; (conv => whnf)
  have hb1 : Blk w1 w.heap.size TBits [.slice none 0 0, .int .i64 0, .bool hi] := hb1
  have hb := hb.keepNo kp
  have hs := hs.keepNo kp
  refine VDraw.by_ tt_ok rfl (.take 0 (.take 1 (.take 2 (.take 3 (.take 4 (.take 5 (.take 6 (.take 7 (.take 8 (.one 9 (.take 10 (.take 11 (.one 12 .done))))))))))))) (by decide +kernel) _ (fun x h1 h2 h3 h4 => Keep.ofHeap h1 h2 h3 h4) (fun wd hd kd => ?_)
  have kp := kp.trans kd
  (conv => whnf)
  refine VLoad.keep (hb1.cell 0) ?_
  (conv => whnf)
  refine VLoad.keep (hb.cell 0) ?_
  (conv => whnf)
  have hb1 := hb1.keepNo kd
  have hs := hs.keepNo kd
  refine VApp.own tt_ok (it := ty22) (ei := ty5) rfl rfl rfl (size := 1) rfl rfl (by omega) (Own.nil wd w.heap.size T8 1) hs (one8 B) (by show (0 + B.length) * 1 ≤ _; omega) (by omega) kp.size ?_
  intro A4 c4 w4 ho4 k4 hat
  have k4 : Keep No wd w4 := k4.mono (fun i _ ⟨a, ha, e⟩ => by cases ha)
  have hb1 := hb1.keepNo k4
  have kp := kp.trans k4
  rw [List.nil_append] at ho4
  (conv => whnf)
  refine VOwe.to (fun _ => True) (fun h => absurd h (by decide +kernel)) trivial ?_; (conv => whnf)
  refine VStore.one hb1 (by simp) ?_
  intro w5 hb5 k5 _
  have ho5 := ho4.keep k5 (fun a ha e => ho4.type_ne ha hb1 (by decide) e)
  have kp := kp.fresh_ k5 (Nat.le_refl _)
  have hne : ∀ a, A4 = some a → a.block ≠ w.heap.size := fun a ha e => ho4.type_ne ha hb1 (by decide) e
  (conv => whnf)
  refine VOwe.to (fun _ => True) (fun h => absurd h (by decide +kernel)) trivial ?_; (conv => whnf)
  have hbv : BitsV w5 w.heap.size A4 c4 B 0 hi := ⟨by simpa using hb5, by have := Sl.ofOwn ho5; simpa using this⟩
  refine (bitsFill_ok w5 hbv (by omega)).mono ?_
  rintro v w6 ⟨rfl, rfl⟩
  (conv => whnf)
  refine VLoad.by_ (hbv.1.cell 0) ?_
  (conv => whnf)
  refine VReq.mk (by omega) ?_
  have q : (B.length : Int).tdiv 8 = (n : Int) := by rw [Int.tdiv_eq_ediv_of_nonneg (by omega)]; omega
  rw [q]
  refine VRes.i64 (by omega) ?_; (conv => whnf)
  refine (bitsBytes_ok w6 hbv hB hn (by omega) hne).mono ?_
  rintro v w7 ⟨⟨A7, c7, rfl, ho7⟩, k7⟩
  (conv => whnf)
  exact ⟨⟨A7, c7, rfl, ho7.mono kp.size⟩, kp.fresh_ k7 (Nat.le_refl _)⟩
end Go.Proofs.Ytififgodhnelgaa
