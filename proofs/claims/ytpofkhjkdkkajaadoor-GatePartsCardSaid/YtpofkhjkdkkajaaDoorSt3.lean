/-
  Package stuff: New, Reset, Dropped, and Feed: the frames that bytes end.
-/
import Derived.Test.YtpofkhjkdkkajaaDoorSt2
namespace Go.Proofs.YtpofkhjkdkkajaaDoor
open Go V

def DfA (w : World) (d : Nat) (A : Option Addr) (s : Df) : Prop := ∃ n c, Blk w d TD (dfCells s A n c) ∧ Own w 0 T8 1 A n c (s.b.map vb)
/-- The blocks of a deframer. -/
def fpt (d : Nat) (A : Option Addr) (k : Nat) : Prop := k = d ∨ ownS A k

theorem DfA.keep {S : Nat → Prop} {w w' : World} {d : Nat} {A : Option Addr} {s : Df} (h : DfA w d A s) (k : Keep S w w') (hs : ∀ i, fpt d A i → ¬ S i) : DfA w' d A s := by
  obtain ⟨n, c, h1, h2⟩ := h
  exact ⟨n, c, h1.keep k (hs d (.inl rfl)), h2.keep k (fun a ha => hs _ (.inr ⟨a, ha, rfl⟩))⟩
theorem DfA.keepNo {w w' : World} {d : Nat} {A : Option Addr} {s : Df} (h : DfA w d A s) (k : Keep No w w') : DfA w' d A s := h.keep k (fun _ _ => id)
theorem DfA.lt {w : World} {d : Nat} {A : Option Addr} {s : Df} (h : DfA w d A s) : ∀ i, fpt d A i → i < w.heap.size := by
  obtain ⟨n, c, h1, h2⟩ := h
  rintro i (rfl | ⟨a, ha, rfl⟩)
  · exact h1.lt
  · exact (h2.base_ ha).2

def Df.fin (s : Df) : Df := { s with b := [], long := false, esc := false, dropped := if s.long || s.esc then s.dropped + 1 else s.dropped }
def Df.out (s : Df) : List (List UInt8) := if (!(s.long || s.esc) && decide (0 < s.b.length)) = true then [s.b] else []
def Df.kind (s : Df) (x : UInt8) : Int := if s.esc then 1 else if x = 0x7d then 3 else if mapB x s.accm then 2 else 0
def Df.step (s : Df) (x : UInt8) : Df × List (List UInt8) :=
  if x = 0x7e then (s.fin, s.out) else (if s.esc then Df.add { s with esc := false } (x ^^^ 0x20) else if x = 0x7d then { s with esc := true } else if mapB x s.accm then s else s.add x, [])
def Df.feed (s : Df) : List UInt8 → Df × List (List UInt8)
  | [] => (s, [])
  | x :: r => (((s.step x).1.feed r).1, (s.step x).2 ++ ((s.step x).1.feed r).2)

theorem Df.feed_snoc (s : Df) (l : List UInt8) (x : UInt8) : s.feed (l ++ [x]) = (((s.feed l).1.step x).1, (s.feed l).2 ++ ((s.feed l).1.step x).2) := by
  induction l generalizing s with
  | nil => simp [Df.feed]
  | cons y l ih => simp [Df.feed, ih]
theorem Df.feed_append (s : Df) (l r : List UInt8) : s.feed (l ++ r) = (((s.feed l).1.feed r).1, (s.feed l).2 ++ ((s.feed l).1.feed r).2) := by
  induction l generalizing s with
  | nil => simp [Df.feed]
  | cons y l ih => simp [Df.feed, ih]

/-- What is always so of a deframer that New made: its bounds. -/
structure Df.Ok (s : Df) (D : Nat) : Prop where
  m0 : 0 < s.most
  most : s.most ≤ 4096
  b : s.b.length ≤ s.most
  d : s.dropped ≤ D

theorem Df.add_ok' {s : Df} {D : Nat} (h : s.Ok D) (x : UInt8) : (s.add x).Ok D := by
  unfold Df.add
  obtain ⟨h0, h1, h2, h3⟩ := h
  split
  · exact ⟨h0, h1, h2, h3⟩
  · exact ⟨h0, h1, by simp only [List.length_append, List.length_cons, List.length_nil]; omega, h3⟩
theorem Df.step_ok {s : Df} {D : Nat} (h : s.Ok D) (x : UInt8) : (s.step x).1.Ok (D + 1) := by
  have up : ∀ {t : Df}, t.Ok D → t.Ok (D + 1) := fun h => ⟨h.m0, h.most, h.b, Nat.le_succ_of_le h.d⟩
  unfold Df.step
  split
  · refine ⟨h.m0, h.most, by simp [Df.fin], ?_⟩
    have := h.d
    simp only [Df.fin]
    split <;> omega
  · split
    · exact up (Df.add_ok' (s := { s with esc := false }) ⟨h.m0, h.most, h.b, h.d⟩ _)
    · split
      · exact up ⟨h.m0, h.most, h.b, h.d⟩
      · split
        · exact up h
        · exact up (Df.add_ok' h x)
theorem Df.feed_ok' {s : Df} {D : Nat} (h : s.Ok D) : ∀ (l : List UInt8), (s.feed l).1.Ok (D + l.length) := by
  intro l
  induction l generalizing s D with
  | nil => exact h
  | cons x l ih =>
    have := ih (Df.step_ok h x)
    simp only [Df.feed, List.length_cons]
    rw [show D + (l.length + 1) = D + 1 + l.length from by omega]
    exact this

theorem new_ok (w : World) (accm : BitVec 32) (most : Int) (hm : -9223372036854775808 ≤ most ∧ most ≤ 9223372036854775807) :
    VC Tryd.prog 19 [vw accm, .int .i64 most] w (fun v w' =>
      ((most < 1 ∨ 4096 < most) ∧ v = .tuple #[.pointer none, .int .i64 1] ∧ Keep No w w') ∨
      (∃ m : Nat, most = m ∧ 1 ≤ m ∧ m ≤ 4096 ∧ v = .tuple #[.pointer (some ⟨w.heap.size, 0, none⟩), .int .i64 0] ∧ DfA w' w.heap.size none ⟨accm, m, [], false, false, 0⟩ ∧ Keep No w w')) := by
  refine VC.of tt_ok Tryd.func19 rfl (by decide +kernel) (Nat.le_of_ble_eq_true rfl) ?_; (conv => whnf)
  refine VCmp.mk (fun h => ?_) (fun h => ?_) <;> (conv => whnf)
  · exact .inl ⟨.inl h, rfl, Keep.refl _ _⟩
  · refine VCmp.mk (fun h2 => ?_) (fun h2 => ?_) <;> (conv => whnf)
    · exact .inl ⟨.inr h2, rfl, Keep.refl _ _⟩
    · refine VFill.by_ rfl ?_
      (conv => whnf)
      refine ⟨fun w1 hb1 hk1 => ?_⟩
      (conv => whnf)
      obtain ⟨m, rfl⟩ := Int.eq_ofNat_of_zero_le (show 0 ≤ most by omega)
      exact .inr ⟨m, rfl, by omega, by omega, rfl, ⟨0, 0, hb1, Own.nil _ _ _ _⟩, hk1⟩

theorem dropped_ok (w : World) {d : Nat} {A : Option Addr} {s : Df} (h : DfA w d A s) :
    VC Tryd.prog 23 [.pointer (some ⟨d, 0, none⟩)] w (fun v w' => v = .int .i64 s.dropped ∧ w' = w) := by
  obtain ⟨n, c, hb, ho⟩ := h
  refine VC.of tt_ok Tryd.func23 rfl (by decide +kernel) (Nat.le_of_ble_eq_true rfl) ?_; (conv => whnf)
  refine VLoad.by_ (hb.cell 5) ?_
  (conv => whnf)
  exact ⟨rfl, rfl⟩

end Go.Proofs.YtpofkhjkdkkajaaDoor
