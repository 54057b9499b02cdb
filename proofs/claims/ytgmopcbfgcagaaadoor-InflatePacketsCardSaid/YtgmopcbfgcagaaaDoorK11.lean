/-
  The document's inflate: the fixed tables; the reader where something may be wrong.
-/
import Derived.Test.YtgmopcbfgcagaaaDoorK10
namespace Go.Proofs.YtgmopcbfgcagaaaDoor
open Go V

theorem fixL_len : fixL.length = 288 := by unfold fixL; rw [List.length_map, List.length_range]
theorem fixDL_len : fixDL.length = 32 := List.length_replicate
theorem fixL_snoc {k : Nat} (h : k < 288) : fixL.take (k + 1) = fixL.take k ++ [fixV k] := by
  rw [List.take_add_one]
  unfold fixL
  rw [List.getElem?_map, List.getElem?_range h]; rfl
theorem fixDL_snoc {k : Nat} (h : k < 32) : fixDL.take (k + 1) = fixDL.take k ++ [5] := by
  rw [List.take_add_one]
  unfold fixDL
  rw [List.getElem?_replicate, if_pos h]; rfl
theorem fixL_ok : TabOk fixL := ⟨by rw [fixL_len]; omega, by decide +kernel, by decide +kernel⟩
theorem fixDL_ok : TabOk fixDL := ⟨by rw [fixDL_len]; omega, by decide +kernel, by decide +kernel⟩
theorem fix_sym (f : Nat) (s : IS) : symF fixC fixO fixDC fixDO f s = symF (cntK fixL fixL.length) (ordA fixL 15) (cntK fixDL fixDL.length) (ordA fixDL 15) f s := by
  rw [fixL_len, fixDL_len]; rfl

set_option maxRecDepth 100000 in
set_option maxHeartbeats 4000000 in
theorem rfixed_ok (w : World) : VC Tryd.prog 41 [] w
    (fun v w' => (∃ t td, v = .tuple #[.pointer (some ⟨t, 0, none⟩), .pointer (some ⟨td, 0, none⟩)] ∧ TabV w' t fixL (codesN fixL) ∧ TabV w' td fixDL (codesN fixDL)) ∧ Keep No w w') := by
  refine VC.of tt_ok Tryd.func41 rfl (by decide +kernel) (Nat.le_of_ble_eq_true rfl) ?_; (conv => whnf)
  refine VLoop.by_ tt_ok (S := Nat × Option Addr × Nat) (fun | (k, A, c) => [(2, .slice A k c), (3, .slice none 0 0), (4, .int .i64 k)])
    (fun | (k, A, c) => fun w' => k ≤ 288 ∧ Own w' w.heap.size TId 1 A k c ((fixL.take k).map nv) ∧ Keep No w w') (fun | (k, _, _) => 288 - k)
    (0, none, 0) ⟨rfl, rfl, rfl, trivial⟩ ⟨by omega, Own.nil _ _ _ _, Keep.refl _ _⟩ ?_
  rintro ⟨k, A, c⟩ w1 ⟨hk, ho, kp⟩
  (conv => whnf)
  refine VCmp.mk (fun g => ?_) (fun g => ?_) <;> (conv => whnf)
  · refine VCmp.mk (fun g1 => ?_) (fun g1 => ?_) <;> (conv => whnf)
    · have e : fixV k = 8 := by unfold fixV; rw [if_pos (by omega)]
      refine VFill.by_ rfl ?_; (conv => whnf)
      refine ⟨fun w2 hb2 k2 => ?_⟩
      have kp := kp.trans k2
      have ho2 := ho.keepNo k2
      (conv => whnf)
      refine VApp.own tt_ok (it := ty107) (ei := ty3) rfl rfl rfl (size := 1) rfl rfl (by omega) ho2 (ys := [nv 8]) (Sl.ofBlk (n := 1) (size := 1) hb2 rfl) (nv_one [8]) (by show (k + 1) * 8 ≤ _; omega) (by omega) kp.size ?_
      intro A3 c3 w3 ho3 k3 hat
      (conv => whnf)
      refine VRes.i64 (by omega) ?_; (conv => whnf)
      have e3 : (fixL.take k).map nv ++ [nv 8] = (fixL.take (k + 1)).map nv := by rw [fixL_snoc (by omega), e, List.map_append]; rfl
      rw [e3] at ho3
      exact ⟨(k + 1, A3, c3), ⟨rfl, rfl, rfl, trivial⟩, ⟨by omega, ho3, kp.own ho2 k3⟩, by dsimp only; omega⟩
    refine VCmp.mk (fun g2 => ?_) (fun g2 => ?_) <;> (conv => whnf)
    · have e : fixV k = 9 := by unfold fixV; rw [if_neg (by omega), if_pos (by omega)]
      refine VFill.by_ rfl ?_; (conv => whnf)
      refine ⟨fun w2 hb2 k2 => ?_⟩
      have kp := kp.trans k2
      have ho2 := ho.keepNo k2
      (conv => whnf)
      refine VApp.own tt_ok (it := ty107) (ei := ty3) rfl rfl rfl (size := 1) rfl rfl (by omega) ho2 (ys := [nv 9]) (Sl.ofBlk (n := 1) (size := 1) hb2 rfl) (nv_one [9]) (by show (k + 1) * 8 ≤ _; omega) (by omega) kp.size ?_
      intro A3 c3 w3 ho3 k3 hat
      (conv => whnf)
      refine VRes.i64 (by omega) ?_; (conv => whnf)
      have e3 : (fixL.take k).map nv ++ [nv 9] = (fixL.take (k + 1)).map nv := by rw [fixL_snoc (by omega), e, List.map_append]; rfl
      rw [e3] at ho3
      exact ⟨(k + 1, A3, c3), ⟨rfl, rfl, rfl, trivial⟩, ⟨by omega, ho3, kp.own ho2 k3⟩, by dsimp only; omega⟩
    refine VCmp.mk (fun g3 => ?_) (fun g3 => ?_) <;> (conv => whnf)
    · have e : fixV k = 7 := by unfold fixV; rw [if_neg (by omega), if_neg (by omega)]
      refine VFill.by_ rfl ?_; (conv => whnf)
      refine ⟨fun w2 hb2 k2 => ?_⟩
      have kp := kp.trans k2
      have ho2 := ho.keepNo k2
      (conv => whnf)
      refine VApp.own tt_ok (it := ty107) (ei := ty3) rfl rfl rfl (size := 1) rfl rfl (by omega) ho2 (ys := [nv 7]) (Sl.ofBlk (n := 1) (size := 1) hb2 rfl) (nv_one [7]) (by show (k + 1) * 8 ≤ _; omega) (by omega) kp.size ?_
      intro A3 c3 w3 ho3 k3 hat
      (conv => whnf)
      refine VRes.i64 (by omega) ?_; (conv => whnf)
      have e3 : (fixL.take k).map nv ++ [nv 7] = (fixL.take (k + 1)).map nv := by rw [fixL_snoc (by omega), e, List.map_append]; rfl
      rw [e3] at ho3
      exact ⟨(k + 1, A3, c3), ⟨rfl, rfl, rfl, trivial⟩, ⟨by omega, ho3, kp.own ho2 k3⟩, by dsimp only; omega⟩
    · have e : fixV k = 8 := by unfold fixV; rw [if_pos (by omega)]
      refine VFill.by_ rfl ?_; (conv => whnf)
      refine ⟨fun w2 hb2 k2 => ?_⟩
      have kp := kp.trans k2
      have ho2 := ho.keepNo k2
      (conv => whnf)
      refine VApp.own tt_ok (it := ty107) (ei := ty3) rfl rfl rfl (size := 1) rfl rfl (by omega) ho2 (ys := [nv 8]) (Sl.ofBlk (n := 1) (size := 1) hb2 rfl) (nv_one [8]) (by show (k + 1) * 8 ≤ _; omega) (by omega) kp.size ?_
      intro A3 c3 w3 ho3 k3 hat
      (conv => whnf)
      refine VRes.i64 (by omega) ?_; (conv => whnf)
      have e3 : (fixL.take k).map nv ++ [nv 8] = (fixL.take (k + 1)).map nv := by rw [fixL_snoc (by omega), e, List.map_append]; rfl
      rw [e3] at ho3
      exact ⟨(k + 1, A3, c3), ⟨rfl, rfl, rfl, trivial⟩, ⟨by omega, ho3, kp.own ho2 k3⟩, by dsimp only; omega⟩
  obtain rfl : k = 288 := by omega
  rw [List.take_of_length_le (by rw [fixL_len]; omega)] at ho
  refine VLoop.by_ tt_ok (S := Nat × Option Addr × Nat) (fun | (k, B, d) => [(2, .slice A 288 c), (3, .slice B k d), (5, .int .i64 k)])
    (fun | (k, B, d) => fun w' => k ≤ 32 ∧ Sl w' 1 A 288 (fixL.map nv) ∧ (∀ a, A = some a → Ty w' a.block TId ∧ ∀ b, B = some b → a.block ≠ b.block) ∧ Own w' w.heap.size TId 1 B k d ((fixDL.take k).map nv) ∧ Keep No w w') (fun | (k, _, _) => 32 - k)
    (0, none, 0) ⟨rfl, rfl, rfl, trivial⟩ ⟨by omega, Sl.ofOwn ho, fun a ha => ⟨ho.ty ha, fun b hb => by cases hb⟩, Own.nil _ _ _ _, kp⟩ ?_
  clear ho kp
  rintro ⟨k, B, d⟩ w1 ⟨hk, hs, hA, ho, kp⟩
  (conv => whnf)
  refine VCmp.mk (fun g => ?_) (fun g => ?_) <;> (conv => whnf)
  · refine VFill.by_ rfl ?_; (conv => whnf)
    refine ⟨fun w2 hb2 k2 => ?_⟩
    have kp := kp.trans k2
    have ho2 := ho.keepNo k2
    (conv => whnf)
    refine VApp.own tt_ok (it := ty107) (ei := ty3) rfl rfl rfl (size := 1) rfl rfl (by omega) ho2 (ys := [nv 5]) (Sl.ofBlk (n := 1) (size := 1) hb2 rfl) (nv_one [5]) (by show (k + 1) * 8 ≤ _; omega) (by omega) kp.size ?_
    intro B3 d3 w3 ho3 k3 hat
    (conv => whnf)
    refine VRes.i64 (by omega) ?_; (conv => whnf)
    have e3 : (fixDL.take k).map nv ++ [nv 5] = (fixDL.take (k + 1)).map nv := by rw [fixDL_snoc (by omega), List.map_append]; rfl
    rw [e3] at ho3
    have hne : ∀ a, A = some a → ¬ ownS B a.block := fun a ha ⟨b, hb, e⟩ => (hA a ha).2 b hb e.symm
    refine ⟨(k + 1, B3, d3), ⟨rfl, rfl, rfl, trivial⟩, ⟨by omega, (hs.keepNo k2).keep k3 hne, fun a ha => ⟨((hA a ha).1.keepNo k2).keep k3 (hne a ha), fun b hb e => ?_⟩, ho3, kp.own ho2 k3⟩, by dsimp only; omega⟩
    rcases hat b hb with ⟨b0, h0, e0⟩ | e0
    · exact (hA a ha).2 b0 h0 (by rw [e, e0])
    · have := ((hA a ha).1.keepNo k2).lt
      omega
  obtain rfl : k = 32 := by omega
  rw [List.take_of_length_le (by rw [fixDL_len]; omega)] at ho
  refine (newTable_ok w1 (n := 288) (lens := fixL) hs (by omega) fixL_ok.2.1).mono ?_
  rintro v w2 ⟨hv, k2⟩
  rw [if_pos (by decide +kernel)] at hv
  obtain ⟨t, rfl, ht⟩ := hv
  (conv => whnf)
  refine (newTable_ok w2 (n := 32) (lens := fixDL) ((Sl.ofOwn ho).keepNo k2) (by omega) fixDL_ok.2.1).mono ?_
  rintro v w3 ⟨hv, k3⟩
  rw [if_pos (by decide +kernel)] at hv
  obtain ⟨td, rfl, htd⟩ := hv
  (conv => whnf)
  exact ⟨⟨t, td, rfl, ht.keepNo k3, htd⟩, (kp.trans k2).trans k3⟩

/-! ### The reader where something may be wrong -/
structure RMay (w : World) (base x bb : Nat) (Ab : Option Addr) (cb : Nat) (A : Option Addr) (c : Nat) (s : IS) (e : Nat) : Prop where
  ok : e = 0 → RfV w base x bb Ab cb A c s
  bad : e ≠ 0 → RBad w x e
  tx : Ty w x TRr
  tb : Ty w bb TBits
theorem RMay.cell {w : World} {base x bb : Nat} {Ab : Option Addr} {cb : Nat} {A : Option Addr} {c : Nat} {s : IS} {e : Nat} (h : RMay w base x bb Ab cb A c s e) : w.cell? ⟨x, 4, none⟩ = some (.int .i64 e) := by
  by_cases he : e = 0
  · subst he; exact (h.ok rfl).1.1.cell 4
  · exact (h.bad he).cell
theorem RBad.ty {w : World} {x e : Nat} (h : RBad w x e) : Ty w x TRr := by
  obtain ⟨_, p, A, n, c, f, m, hb⟩ := h
  exact hb.ty
theorem RMay.ofOk {w : World} {base x bb : Nat} {Ab : Option Addr} {cb : Nat} {A : Option Addr} {c : Nat} {s : IS} (h : RfV w base x bb Ab cb A c s) : RMay w base x bb Ab cb A c s 0 := ⟨fun _ => h, fun h => absurd rfl h, h.1.1.ty, h.1.2.1.1.ty⟩
theorem RMay.ofBad {w : World} {base x bb : Nat} {Ab : Option Addr} {cb : Nat} {A : Option Addr} {c : Nat} {s : IS} {e : Nat} (h : RBad w x e) (tb : Ty w bb TBits) : RMay w base x bb Ab cb A c s e := ⟨fun he => absurd he h.1, fun _ => h, h.ty, tb⟩
/-- Some bits: their number, what is wrong then, the reader. -/
def bitsM (s : IS) (e n : Nat) : Nat × Nat × IS := if e ≠ 0 then (0, e, s) else if s.at_ + n ≤ 8 * s.l.length then (numL s.l s.at_ n, 0, { s with at_ := s.at_ + n }) else (0, 2, s)
theorem rbitsM_ok (w : World) {base x bb : Nat} {Ab : Option Addr} {cb : Nat} {A : Option Addr} {c : Nat} {s : IS} {e : Nat} (h : RMay w base x bb Ab cb A c s e) (hn : s.l.length ≤ 1000000) (ha : s.at_ ≤ 100000000) {n : Nat} (h32 : n ≤ 32) :
    VC Tryd.prog 39 [.pointer (some ⟨x, 0, none⟩), .int .i64 n] w
      (fun v w' => (v = .int .i64 ((bitsM s e n).1 : Nat) ∧ RMay w' base x bb Ab cb A c (bitsM s e n).2.2 (bitsM s e n).2.1) ∧ Keep (fpB x bb) w w') := by
  unfold bitsM
  by_cases he : e ≠ 0
  · rw [if_pos he]
    refine (rbitsBad_ok w (h.bad he) _).mono ?_
    rintro v w1 ⟨rfl, rfl⟩
    exact ⟨⟨rfl, h⟩, Keep.refl _ _⟩
  rw [if_neg he]
  have he : e = 0 := by omega
  have h := h.ok he
  refine (rbits_ok w h.1 h.arb hn ha h32).mono ?_
  rintro v w1 ⟨hv, k1⟩
  rw [if_pos rfl] at hv
  refine ⟨?_, k1⟩
  by_cases hle : s.at_ + n ≤ 8 * s.l.length
  · rw [if_pos hle] at hv ⊢
    obtain ⟨rfl, h1⟩ := hv
    exact ⟨rfl, .ofOk (h.after k1 h1)⟩
  · rw [if_neg hle] at hv ⊢
    obtain ⟨rfl, h1⟩ := hv
    exact ⟨rfl, .ofBad (h1.bad (by decide)) h1.2.1.1.ty⟩
end Go.Proofs.YtgmopcbfgcagaaaDoor
