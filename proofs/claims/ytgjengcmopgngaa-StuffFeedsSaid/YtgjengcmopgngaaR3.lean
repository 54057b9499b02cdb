/-
  The two deframers, side by side.
-/
import Derived.Test.YtgjengcmopgngaaR2
namespace Go.Proofs.Ytgjengcmopgngaa
open Go V

structure Two (W w : World) (dS dR : Nat) (A A2 : Option Addr) (s : Df) (r : Rf) (D : Nat) : Prop where
  df : DfA w dS A s
  rf : RfA w dR A2 r
  rel : Rel s r
  so : s.Ok D
  ro : r.Ok D
  ap : ∀ i, fpt dS A i → ¬ fpt dR A2 i
  lo : ∀ i, fpt dS A i ∨ fpt dR A2 i → W.heap.size ≤ i
  kp : Keep No W w
theorem Two.keepNo {W w w' : World} {dS dR : Nat} {A A2 : Option Addr} {s : Df} {r : Rf} {D : Nat} (h : Two W w dS dR A A2 s r D) (k : Keep No w w') : Two W w' dS dR A A2 s r D :=
  ⟨h.df.keepNo k, h.rf.keepNo k, h.rel, h.so, h.ro, h.ap, h.lo, h.kp.trans k⟩

/-- What stands when one has fed. -/
theorem Two.one {W w : World} {dS dR : Nat} {A A2 : Option Addr} {s : Df} {r : Rf} {D : Nat} (h : Two W w dS dR A A2 s r D) {A' Ao : Option Addr} {no co : Nat} {vals : List Value} {s' : Df} {fs : List (List UInt8)} {w2 : World}
    (hst : FeedSt w dS A s A' Ao no co vals s' fs w2) : RfA w2 dR A2 r ∧ Keep No W w2 := by
  refine ⟨h.rf.keep hst.keep (fun i h1 h2 => h.ap i h2 h1), h.kp.toNo hst.keep (fun i hi => h.lo i (.inl hi))⟩

/-- .. and when both have. -/
theorem Two.both {W w : World} {dS dR : Nat} {A A2 : Option Addr} {s : Df} {r : Rf} {D : Nat} (h : Two W w dS dR A A2 s r D) {A' Ao : Option Addr} {no co : Nat} {vals : List Value} {fs : List (List UInt8)} {w2 : World} (l : List UInt8)
    (hst : FeedSt w dS A s A' Ao no co vals (s.feed l).1 fs w2) {A2' Ao2 : Option Addr} {no2 co2 : Nat} {vals2 : List Value} {fs2 : List (List UInt8)} {w3 : World} (hst3 : RFeedSt w2 dR A2 A2' Ao2 no2 co2 vals2 (r.feed l).1 fs2 w3) :
    Two W w3 dS dR A' A2' (s.feed l).1 (r.feed l).1 (D + l.length) ∧ Sl w3 1 Ao no vals ∧ Els w3 (frX w w2 dS A A') vals fs := by
  have hdl := h.df.lt
  have hrl := h.rf.lt
  have hs2 := hst.keep.size
  have hs3 := hst3.keep.size
  have hdl2 := hst.df.lt
  have hd' : ∀ i, fpt dS A' i → ¬ fpt dR A2 i := by
    rintro i (hi | ⟨a, ha, rfl⟩) h2
    · exact h.ap i (.inl hi) h2
    · rcases hst.buf a ha with h1 | h1
      · exact h.ap _ (.inr h1) h2
      · have := hrl _ h2; omega
  have lo2 : ∀ i, fpt dS A' i → W.heap.size ≤ i := by
    rintro i (hi | ⟨a, ha, rfl⟩)
    · exact h.lo i (.inl (.inl hi))
    · rcases hst.buf a ha with h1 | h1
      · exact h.lo _ (.inl (.inr h1))
      · have := h.kp.size; omega
  have hW := h.kp.size
  refine ⟨⟨hst.df.keep hst3.keep hd', hst3.df, (h.rel.feed h.ro.m0 l).1, Df.feed_ok' h.so l, Rf.feed_ok' h.ro l, ?_, ?_, ?_⟩, ?_, ?_⟩
  · rintro i h1 (h2 | ⟨a, ha, rfl⟩)
    · exact hd' i h1 (.inl h2)
    · rcases hst3.buf a ha with h3 | h3
      · exact hd' _ h1 (.inr h3)
      · have := hdl2 _ h1; omega
  · rintro i (h1 | h2 | ⟨a, ha, rfl⟩)
    · exact lo2 i h1
    · exact h.lo i (.inr (.inl h2))
    · rcases hst3.buf a ha with h3 | h3
      · exact h.lo _ (.inr (.inr h3))
      · omega
  · exact (h.one hst).2.toNo hst3.keep (fun i hi => h.lo i (.inr hi))
  · refine (Sl.ofOwn hst.out).keep hst3.keep (fun a ha h2 => ?_)
    have := (hst.out.base_ ha).1
    have := hrl _ h2
    omega
  · refine hst.els.keep hst3.keep ?_
    rintro i ⟨h1, _, _, _, _⟩ h2
    rcases h1 with h1 | h1
    · exact h.ap i (.inr h1) h2
    · have := hrl _ h2; omega

theorem feed_blank (accm : BitVec 32) (most : Nat) (dr : Nat) (hm : 0 < most) : (Df.feed ⟨accm, most, [], false, false, dr⟩ [0x20, 0x7e]).2 = [[0x20]] := by
  have hmp : mapB 0x20 accm = false := by unfold mapB; rfl
  have h1 : (Df.step ⟨accm, most, [], false, false, dr⟩ 0x20) = (⟨accm, most, [0x20], false, false, dr⟩, []) := by
    unfold Df.step
    rw [if_neg (by decide)]
    dsimp only
    rw [if_neg (by decide), if_neg (by decide), hmp, if_neg (by decide)]
    unfold Df.add
    rw [if_neg (by show ¬ most ≤ 0; omega)]
    rfl
  have h2 : (Df.step ⟨accm, most, [0x20], false, false, dr⟩ 0x7e).2 = [[0x20]] := rfl
  show (Df.step _ 0x20).2 ++ ((Df.step _ 0x7e).2 ++ []) = _
  rw [h1]
  dsimp only
  rw [h2]
  rfl

theorem rdropped_cell {w : World} {d : Nat} {A : Option Addr} {s : Rf} (h : RfA w d A s) : w.cell? ⟨d, 4, none⟩ = some (.int .i64 s.dropped) := by
  obtain ⟨n, c, hb, _⟩ := h
  rw [hb.cell]
  rfl
end Go.Proofs.Ytgjengcmopgngaa
