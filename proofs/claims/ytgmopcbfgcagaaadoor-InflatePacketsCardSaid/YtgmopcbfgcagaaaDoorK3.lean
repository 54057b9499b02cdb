/-
  The document's table: what code begins so.
-/
import Derived.Test.YtgmopcbfgcagaaaDoorK2
namespace Go.Proofs.YtgmopcbfgcagaaaDoor
open Go V

abbrev TTr : TypeId := 152
/-- Block t is the document's table: each symbol's length and code. -/
def TabV (w : World) (t : Nat) (lens cods : List Nat) : Prop :=
  cods.length = lens.length ∧ ∃ L cl C cc, Blk w t TTr [.slice L lens.length cl, .slice C lens.length cc] ∧ Sl w 1 L lens.length (lens.map nv) ∧ Sl w 1 C lens.length (cods.map nv) ∧ (∀ a, L = some a → Ty w a.block TId) ∧ (∀ a, C = some a → Ty w a.block TId)
theorem TabV.keepNo {w w' : World} {t : Nat} {lens cods : List Nat} (h : TabV w t lens cods) (k : Keep No w w') : TabV w' t lens cods := by
  obtain ⟨h1, L, cl, C, cc, h2, h3, h4, h5, h6⟩ := h
  exact ⟨h1, L, cl, C, cc, h2.keepNo k, h3.keepNo k, h4.keepNo k, fun a ha => (h5 a ha).keepNo k, fun a ha => (h6 a ha).keepNo k⟩
/-- Does symbol i's code begin with the n bits of code? -/
def beg (lens cods : List Nat) (code n i : Nat) : Bool := decide (n ≤ lens.getD i 0) && (cods.getD i 0 / 2 ^ (lens.getD i 0 - n) == code)
/-- The first symbol whose code it is; whether some code begins so. -/
def begF (lens cods : List Nat) (code n : Nat) : Nat → Nat → Bool → Bool × Int
  | 0, _, some_ => (some_, -1)
  | f + 1, i, some_ => if beg lens cods code n i then (if lens.getD i 0 = n then (true, (i : Int)) else begF lens cods code n f (i + 1) true) else begF lens cods code n f (i + 1) some_

set_option maxHeartbeats 1000000 in
theorem begins_ok (w : World) {t : Nat} {lens cods : List Nat} (h : TabV w t lens cods) (hn : lens.length ≤ 320) (h15 : ∀ x ∈ lens, x ≤ 15) (hc : ∀ x ∈ cods, x < 65536) {code n : Nat} (hcode : code < 65536) (hn15 : n ≤ 15) :
    VC Tryd.prog 78 [.pointer (some ⟨t, 0, none⟩), .int .i64 code, .int .i64 n] w
      (fun v w' => v = .tuple #[.bool (begF lens cods code n lens.length 0 false).1, .int .i64 (begF lens cods code n lens.length 0 false).2] ∧ Keep No w w') := by
  obtain ⟨F, hF⟩ : ∃ F, F = begF lens cods code n lens.length 0 false := ⟨_, rfl⟩
  rw [← hF]
  refine VC.of tt_ok Tryd.func78 rfl (by decide +kernel) (Nat.le_of_ble_eq_true rfl) ?_; (conv => whnf)
  refine VLoop.by_ tt_ok (S := Nat × Bool) (fun | (f, b) => [(0, .pointer (some ⟨t, 0, none⟩)), (1, .int .i64 code), (2, .int .i64 n), (8, .bool b), (9, .int .i64 ((lens.length - f : Nat) : Int))])
    (fun | (f, b) => fun w' => f ≤ lens.length ∧ F = begF lens cods code n f (lens.length - f) b ∧ Keep No w w') (fun | (f, _) => f)
    (lens.length, false) ⟨rfl, rfl, rfl, rfl, by dsimp only; rw [Nat.sub_self]; rfl, trivial⟩ ⟨Nat.le_refl _, by rw [Nat.sub_self]; exact hF, Keep.refl _ _⟩ ?_
  clear hF
  rintro ⟨f, b⟩ w1 ⟨hf, hF, kp⟩
  obtain ⟨hcl, L, cl, C, cc, hb, hL, hC, _, _⟩ := h.keepNo kp
  (conv => whnf)
  refine VLoad.by_ (hb.cell 0) ?_
  (conv => whnf)
  refine VCmp.mk (fun g => ?_) (fun g => ?_) <;> (conv => whnf)
  rotate_left 1
  · obtain rfl : f = 0 := by omega
    subst hF
    exact ⟨rfl, kp⟩
  obtain ⟨j, rfl⟩ : ∃ j, f = j + 1 := ⟨f - 1, by omega⟩
  obtain ⟨i, hi⟩ : ∃ i, i = lens.length - (j + 1) := ⟨_, rfl⟩
  rw [← hi] at hF
  rw [← hi]
  unfold begF at hF
  refine VDraw.by_ tt_ok rfl (.take 0 (.take 1 (.take 2 (.take 3 (.take 4 (.take 5 (.take 6 (.take 7 (.take 8 (.take 9 (.take 10 (.take 11 (.take 12 (.take 13 (.take 14 (.take 15 (.take 16 (.take 17 (.take 18 (.take 19 (.take 20 (.take 21 (.take 22 (.take 23 (.take 24 (.take 25 (.take 26 (.take 27 (.take 28 (.take 29 (.take 30 .done))))))))))))))))))))))))))))))) (by decide +kernel) _ (fun x h1 h2 h3 h4 => Keep.ofHeap h1 h2 h3 h4) (fun wd hd kd => ?_)
  (conv => whnf)
  refine VLoad.keep (hb.cell 0) ?_
  (conv => whnf)
  have hLd := hL.keepNo kd
  have hCd := hC.keepNo kd
  have hx15 : lens.getD i 0 ≤ 15 := getD_le15 h15 i
  have hcx : cods.getD i 0 < 65536 := by
    rw [List.getD_eq_getElem?_getD]
    rcases Nat.lt_or_ge i cods.length with h1 | h1
    · rw [List.getElem?_eq_getElem h1]; exact hc _ (List.getElem_mem h1)
    · rw [List.getElem?_eq_none h1]; decide
  refine VIdx.nv hL i (by omega) (by omega) (fun b_ o_ hA_ hc_ => ?_)
  (conv => whnf)
  refine VLoad.keep hc_ ?_
  (conv => whnf)
  refine VCmp.mk (fun g1 => ?_) (fun g1 => ?_) <;> (conv => whnf)
  · refine VLoad.keep (hb.cell 1) ?_
    (conv => whnf)
    refine VIdx.nv hC i (by omega) (by omega) (fun b_ o_ hA_ hc_ => ?_)
    (conv => whnf)
    refine VLoad.keep hc_ ?_
    (conv => whnf)
    refine VLoad.keep (hb.cell 0) ?_
    (conv => whnf)
    refine VIdx.nv hL i (by omega) (by omega) (fun b_ o_ hA_ hc_ => ?_)
    (conv => whnf)
    refine VLoad.keep hc_ ?_
    (conv => whnf)
    refine VRes.i64 (by omega) ?_; (conv => whnf)
    refine VRes.u64 (by omega) ?_
    (conv => whnf)
    refine VReq.mk (by omega) ?_
    refine VRes.shrN (k := .i64) (N := cods.getD i 0) (s := lens.getD i 0 - n) rfl (by omega) (by show lens.getD i 0 - n ≤ 64; omega) ?_
    (conv => whnf)
    have kp2 := kp.trans kd
    have hbd := hb.keepNo kd
    refine VCmp.mk (fun g2 => ?_) (fun g2 => ?_) <;> (conv => whnf)
    · have hbg : beg lens cods code n i = true := by
        unfold beg
        rw [Bool.and_eq_true]
        exact ⟨decide_eq_true (by omega), by rw [beq_iff_eq]; omega⟩
      rw [hbg, if_pos rfl] at hF
      refine VLoad.by_ (hbd.cell 0) ?_
      (conv => whnf)
      refine VIdx.nv hLd i (by omega) (by omega) (fun b_ o_ hA_ hc_ => ?_)
      (conv => whnf)
      refine VLoad.by_ hc_ ?_
      (conv => whnf)
      refine VCmp.mk (fun g3 => ?_) (fun g3 => ?_) <;> (conv => whnf)
      · rw [if_pos (by omega)] at hF
        subst hF
        rw [← hi]
        exact ⟨rfl, kp2⟩
      · rw [if_neg (by omega)] at hF
        refine VRes.i64 (by omega) ?_; (conv => whnf)
        refine ⟨(j, true), ⟨rfl, rfl, rfl, rfl, ?_, trivial⟩, ⟨by omega, by rw [show lens.length - j = i + 1 from by omega]; exact hF, kp2⟩, by dsimp only; omega⟩
        rw [show ((lens.length - j : Nat) : Int) = ((lens.length - (j + 1) : Nat) : Int) + 1 from by omega]; rfl
    · have hbg : beg lens cods code n i = false := by
        unfold beg
        rw [Bool.and_eq_false_iff]
        exact .inr (by rw [beq_eq_false_iff_ne]; omega)
      rw [hbg, if_neg (by decide)] at hF
      refine VRes.i64 (by omega) ?_; (conv => whnf)
      refine ⟨(j, b), ⟨rfl, rfl, rfl, rfl, ?_, trivial⟩, ⟨by omega, by rw [show lens.length - j = i + 1 from by omega]; exact hF, kp2⟩, by dsimp only; omega⟩
      rw [show ((lens.length - j : Nat) : Int) = ((lens.length - (j + 1) : Nat) : Int) + 1 from by omega]; rfl
  · have kp2 := kp.trans kd
    have hbg : beg lens cods code n i = false := by
      unfold beg
      rw [Bool.and_eq_false_iff]
      exact .inl (decide_eq_false (by omega))
    rw [hbg, if_neg (by decide)] at hF
    refine VRes.i64 (by omega) ?_; (conv => whnf)
    refine ⟨(j, b), ⟨rfl, rfl, rfl, rfl, ?_, trivial⟩, ⟨by omega, by rw [show lens.length - j = i + 1 from by omega]; exact hF, kp2⟩, by dsimp only; omega⟩
    rw [show ((lens.length - j : Nat) : Int) = ((lens.length - (j + 1) : Nat) : Int) + 1 from by omega]; rfl
end Go.Proofs.YtgmopcbfgcagaaaDoor
