/-
  Package stuff: the deframer, step by step, as a plain function; each method computes it.
-/
import Derived.Test.YtpofkhjkdkkajaaDoorSt1
namespace Go.Proofs.YtpofkhjkdkkajaaDoor
open Go V

structure Df where
  accm : BitVec 32
  most : Nat
  b : List UInt8
  long : Bool
  esc : Bool
  dropped : Nat
deriving DecidableEq

abbrev TD : TypeId := 73
abbrev TSS : TypeId := 57

def dfCells (s : Df) (A : Option Addr) (n c : Nat) : List Value := [vw s.accm, .int .i64 s.most, .slice A n c, .bool s.long, .bool s.esc, .int .i64 s.dropped]

theorem clear_ok (w : World) {d : Nat} {x0 x1 x2 x3 x4 x5 : Value} (hb : Blk w d TD [x0, x1, x2, x3, x4, x5]) :
    VC Tryd.prog 42 [.pointer (some ⟨d, 0, none⟩)] w (fun v w' => v = .tuple #[] ∧ Blk w' d TD [x0, x1, .slice none 0 0, .bool false, .bool false, x5] ∧ Keep (fun k => k = d) w w') := by
  refine VC.of tt_ok Tryd.func42 rfl (by decide +kernel) (Nat.le_of_ble_eq_true rfl) ?_; (conv => whnf)
  refine VStore.one hb ?_ (fun w1 hb1 hk1 _ => ?_); (· simp)
  (conv => whnf)
  refine VStore.one hb1 ?_ (fun w2 hb2 hk2 _ => ?_); (· simp)
  (conv => whnf)
  refine VStore.one hb2 ?_ (fun w3 hb3 hk3 _ => ?_); (· simp)
  (conv => whnf)
  exact ⟨rfl, hb3, (hk1.trans hk2).trans hk3⟩

theorem end_ok (w : World) {d : Nat} (s : Df) {A : Option Addr} {n c : Nat} (hb : Blk w d TD (dfCells s A n c)) (hd : s.dropped ≤ 4611686018427387904) :
    VC Tryd.prog 30 [.pointer (some ⟨d, 0, none⟩)] w (fun v w' => v = .tuple #[.slice A n c, .bool (!(s.long || s.esc) && decide (0 < n))] ∧
      Blk w' d TD (dfCells { s with b := [], long := false, esc := false, dropped := if s.long || s.esc then s.dropped + 1 else s.dropped } none 0 0) ∧ Keep (fun k => k = d) w w') := by
  obtain ⟨accm, most, b, long, esc, dropped⟩ := s
  unfold dfCells at hb
  dsimp only at hb hd
  cases long <;> cases esc <;> (
    refine VC.of tt_ok Tryd.func30 rfl (by decide +kernel) (Nat.le_of_ble_eq_true rfl) ?_; (conv => whnf)
    refine VDraw.by_ tt_ok rfl (.take 0 (.take 1 (.take 2 (.take 3 (.take 4 (.take 5 (.take 6 (.take 7 (.take 8 (.take 9 (.take 10 (.take 11 (.take 12 (.take 13 (.take 14 (.take 15 .done)))))))))))))))) (by decide +kernel) _ (fun x h1 h2 h3 h4 => Keep.ofHeap h1 h2 h3 h4) (fun wd hd kd => ?_)
    (conv => whnf)
    refine VLoad.keep (hb.cell 2) ?_
    (conv => whnf)
    refine VLoad.keep (hb.cell 3) ?_
    (conv => whnf)
    try (refine VLoad.keep (hb.cell 4) ?_; (conv => whnf))
    refine (clear_ok _ (hb.keep kd id)).mono ?_
    rintro v w1 ⟨rfl, hb1, hk1⟩
    (conv => whnf)
    first
    | (refine VLoad.by_ (hb1.cell 5) ?_
       (conv => whnf)
       refine VRes.i64 (by omega) ?_
       (conv => whnf)
       refine VStore.one hb1 ?_ (fun w2 hb2 hk2 _ => ?_); (· simp)
       (conv => whnf)
       exact ⟨rfl, hb2, (kd.mono (fun _ _ h => h.elim)).trans (hk1.trans hk2)⟩)
    | (refine VCmp.mk (fun h => ?_) (fun h => ?_) <;> (conv => whnf)
       · exact ⟨by have h' : 0 < n := by omega
                   simp [vtup, h'], hb1, (kd.mono (fun _ _ h => h.elim)).trans hk1⟩
       · exact ⟨by have h' : ¬ 0 < n := by omega
                   simp [vtup, h'], hb1, (kd.mono (fun _ _ h => h.elim)).trans hk1⟩))

def Df.add (s : Df) (c : UInt8) : Df := if s.most ≤ s.b.length then { s with long := true } else { s with b := s.b ++ [c] }

theorem add_ok (w : World) {d : Nat} (s : Df) {A : Option Addr} {n c : Nat} (x : UInt8) (hb : Blk w d TD (dfCells s A n c)) (ho : Own w 0 T8 1 A n c (s.b.map vb)) (hn : n ≤ 140737488355327) :
    VC Tryd.prog 32 [.pointer (some ⟨d, 0, none⟩), vb x] w (fun v w' => v = .tuple #[] ∧ ∃ A' n' c', Blk w' d TD (dfCells (s.add x) A' n' c') ∧ Own w' 0 T8 1 A' n' c' ((s.add x).b.map vb) ∧
      Keep (fun k => k = d ∨ ownS A k) w w' ∧ (∀ a, A' = some a → ownS A a.block ∨ w.heap.size ≤ a.block)) := by
  have hl : s.b.length = n := by simpa using (Sl.ofOwn ho).len
  obtain ⟨accm, most, b, long, esc, dropped⟩ := s
  unfold dfCells at hb
  dsimp only at hb ho hl
  refine VC.of tt_ok Tryd.func32 rfl (by decide +kernel) (Nat.le_of_ble_eq_true rfl) ?_; (conv => whnf)
  refine VDraw.by_ tt_ok rfl (.take 0 (.take 1 (.take 2 (.take 3 (.take 4 (.take 5 (.take 6 (.take 7 (.take 8 (.take 9 .done)))))))))) (by decide +kernel) _ (fun x h1 h2 h3 h4 => Keep.ofHeap h1 h2 h3 h4) (fun wd hd kd => ?_)
  (conv => whnf)
  refine VLoad.keep (hb.cell 2) ?_
  (conv => whnf)
  refine VLoad.keep (hb.cell 1) ?_
  (conv => whnf)
  have hbd := hb.keep kd id
  have hod := Own.keepNo ho kd
  refine VCmp.mk (fun h => ?_) (fun h => ?_) <;> (conv => whnf)
  · refine VStore.one hbd ?_ (fun w1 hb1 hk1 _ => ?_); (· simp)
    (conv => whnf)
    refine ⟨rfl, A, n, c, ?_, ?_, ?_, ?_⟩
    · have : (Df.add ⟨accm, most, b, long, esc, dropped⟩ x) = ⟨accm, most, b, true, esc, dropped⟩ := by unfold Df.add; rw [if_pos (by dsimp only; omega)]
      rw [this]; exact hb1
    · have : (Df.add ⟨accm, most, b, long, esc, dropped⟩ x) = ⟨accm, most, b, true, esc, dropped⟩ := by unfold Df.add; rw [if_pos (by dsimp only; omega)]
      rw [this]
      exact hod.keep hk1 (fun a hA h => hod.type_ne hA hbd (by decide) h)
    · exact (kd.mono (fun _ _ h => h.elim)).trans (hk1.mono (fun _ _ h => .inl h))
    · exact fun a hA => .inl ⟨a, hA, rfl⟩
  · refine VLoad.by_ (hbd.cell 2) ?_
    (conv => whnf)
    refine VFill.by_ rfl ?_
    (conv => whnf)
    refine ⟨fun w1 hb1 hk1 => ?_⟩
    (conv => whnf)
    have ho1 := Own.keepNo hod hk1
    refine VApp.own tt_ok (it := ty27) (ei := ty5) rfl rfl rfl (size := 1) rfl rfl (by omega) (base := 0) ho1 (ys := [vb x]) (Sl.ofBlk (n := 1) (size := 1) hb1 rfl) (one8 [x]) (by show (n + 1) * 1 ≤ _; omega) (by omega) (Nat.zero_le _) ?_
    intro A' c' w2 ho2 hk2 hat
    (conv => whnf)
    have hb2 := (hbd.keep hk1 id).keep hk2 (fun ⟨a, hA, h⟩ => ho1.type_ne hA (hbd.keep hk1 id) (by decide) h)
    refine VStore.one hb2 ?_ (fun w3 hb3 hk3 _ => ?_); (· simp)
    (conv => whnf)
    have : (Df.add ⟨accm, most, b, long, esc, dropped⟩ x) = ⟨accm, most, b ++ [x], long, esc, dropped⟩ := by unfold Df.add; rw [if_neg (by dsimp only; omega)]
    rw [this]
    refine ⟨rfl, A', n + 1, c', hb3, ?_, ?_, ?_⟩
    · have := ho2.keep hk3 (fun a hA h => ho2.type_ne hA hb2 (by decide) h)
      simpa using this
    · have k1 : Keep (fun k => k = d ∨ ownS A k) w w1 := (kd.trans hk1).mono (fun _ _ h => h.elim)
      exact (k1.trans (hk2.mono (fun _ _ h => .inr h))).trans (hk3.mono (fun _ _ h => .inl h))
    · intro a hA
      rcases hat a hA with ⟨a0, h1, h2⟩ | h
      · exact .inl ⟨a0, h1, h2.symm⟩
      · exact .inr (by have := (kd.trans hk1).size; omega)

theorem kind_ok (w : World) {d : Nat} (s : Df) {A : Option Addr} {n c : Nat} (x : UInt8) (hb : Blk w d TD (dfCells s A n c)) :
    VC Tryd.prog 31 [.pointer (some ⟨d, 0, none⟩), vb x] w (fun v w' => v = .int .i64 (if s.esc then 1 else if x = 0x7d then 3 else if mapB x s.accm then 2 else 0) ∧ w' = w) := by
  obtain ⟨accm, most, b, long, esc, dropped⟩ := s
  unfold dfCells at hb
  dsimp only at hb
  cases esc <;> (
    refine VC.of tt_ok Tryd.func31 rfl (by decide +kernel) (Nat.le_of_ble_eq_true rfl) ?_; (conv => whnf)
    refine VLoad.by_ (hb.cell 4) ?_
    (conv => whnf))
  · refine VCmp.mk (fun h => ?_) (fun h => ?_) <;> (conv => whnf)
    · have hx : x = 0x7d := UInt8.toNat_inj.1 (by have : (0x7d : UInt8).toNat = 125 := rfl; omega)
      exact ⟨by simp [vtup, hx], rfl⟩
    · have hx : ¬ x = 0x7d := fun e => h (by rw [e]; rfl)
      refine VLoad.by_ (hb.cell 0) ?_
      (conv => whnf)
      refine (mapped_ok _ x accm).mono ?_
      rintro v w1 ⟨rfl, rfl⟩
      cases hm : mapB x accm <;> (conv => whnf) <;> exact ⟨by simp [vtup, hx, hm], rfl⟩
  · exact ⟨rfl, rfl⟩
end Go.Proofs.YtpofkhjkdkkajaaDoor
