/-
  Package inflate: a dynamic block's head.
-/
import Derived.Test.YtgmopcbfgcagaaaDoorI7
namespace Go.Proofs.YtgmopcbfgcagaaaDoor
open Go V

abbrev TA3 : TypeId := 104
theorem VIdxV.one {cs : Array Value} {n : Nat} {i : Int} {K : Value → Prop} (j : Nat) (hj : (j : Int) = i) (hn : j < n) {v : Value} (hv : cs[j]? = some v) (hK : K v) : VIdxV cs n i 1 K := ⟨⟨j, v, hj, hn, by rw [Nat.mul_one]; exact hv, hK⟩⟩

/-- A store into another block leaves the reader. -/
theorem InfV.other {w w' : World} {base x rb : Nat} {Ar : Option Addr} {cr : Nat} {A : Option Addr} {c : Nat} {s : IS} (h : InfV w base x rb Ar cr A c s) {q : Nat} {t : TypeId} {cs : List Value} (hb : Blk w q t cs) (h1 : TRe ≠ t) (h2 : TRd ≠ t) (h3 : T8 ≠ t) (k : Keep (fun k => k = q) w w') : InfV w' base x rb Ar cr A c s :=
  h.keep k (fun e => h.1.ne hb h1 e) (fun e => h.2.1.1.ne hb h2 e) (fun i ⟨_, ha, e⟩ e' => (h.2.2.1.ty ha).ne hb.ty h3 (e.trans e')) (fun i ⟨a, ha, e⟩ e' => (h.2.2.2.2.2 a ha).2.1.ne hb.ty h3 (e.trans e'))
/-- So it does to what was there before that block. -/
theorem keep_newer {S : Nat → Prop} {w w1 w2 : World} {q : Nat} (h : Keep S w w1) (k : Keep (fun k => k = q) w1 w2) (hq : w.heap.size ≤ q) : Keep S w w2 :=
  ⟨k.os.trans h.os, k.tape.trans h.tape, k.output.trans h.output, Nat.le_trans h.size k.size, fun j hj hn => by rw [k.block j (by have := h.size; omega) (by omega), h.block j hj hn]⟩

theorem BadV.other {w w' : World} {v : Value} {e : Nat} (h : BadV w v e) {q : Nat} {t : TypeId} {cs : List Value} (hb : Blk w q t cs) (hc : cs[1]? = some (nv 0)) (k : Keep (fun k => k = q) w w') : BadV w' v e := by
  refine ⟨?_, h.2⟩
  rcases h.1 with h1 | ⟨b, h1, h2, h3, h4⟩
  · exact .inl h1
  · refine .inr ⟨b, h1, k.cell h2 (fun e' => h3 ?_), h3, h4⟩
    have e' : b = q := e'
    subst e'
    rw [hb.cell, hc] at h2
    injection h2 with h2
    injection h2 with _ h2
    exact h2.symm

/-! ### The three numbers -/
def hdW (k : Nat) : Nat := if k < 2 then 5 else 4
def hdA (k : Nat) : Nat := 5 * k - k / 3
def hdP (k : Nat) : Nat := if k = 0 then 257 else if k = 1 then 1 else 4
def hdN (l : List UInt8) (a k : Nat) : Nat := numL l (a + hdA k) (hdW k) + hdP k
def hdK (l : List UInt8) (a k : Nat) : List Nat := (List.range 3).map fun i => if i < k then hdN l a i else 0
/-- How many lengths of both codes, and of the first one's own. -/
def headsF (s : IS) : Except Nat (Nat × Nat × Nat) :=
  if 8 * s.l.length < s.at_ + 14 then .error 2 else .ok (hdN s.l s.at_ 0, hdN s.l s.at_ 1, hdN s.l s.at_ 2)
theorem hdN_lt (l : List UInt8) (a : Nat) : hdN l a 0 < 289 ∧ 257 ≤ hdN l a 0 ∧ hdN l a 1 < 33 ∧ 1 ≤ hdN l a 1 ∧ hdN l a 2 < 20 ∧ 4 ≤ hdN l a 2 := by
  have h0 := numL_lt l (a + hdA 0) 5
  have h1 := numL_lt l (a + hdA 1) 5
  have h2 := numL_lt l (a + hdA 2) 4
  have e0 : hdN l a 0 = numL l (a + hdA 0) 5 + 257 := rfl
  have e1 : hdN l a 1 = numL l (a + hdA 1) 5 + 1 := rfl
  have e2 : hdN l a 2 = numL l (a + hdA 2) 4 + 4 := rfl
  rw [e0, e1, e2]
  omega
theorem hdK_set (l : List UInt8) (a k : Nat) (hk : k < 3) : (hdK l a k).set k (hdN l a k) = hdK l a (k + 1) := by
  have h : k = 0 ∨ k = 1 ∨ k = 2 := by omega
  rcases h with rfl | rfl | rfl <;> rfl

set_option maxHeartbeats 2000000 in
theorem heads_ok (w : World) {base x rb : Nat} {Ar : Option Addr} {cr : Nat} {A : Option Addr} {c : Nat} {s : IS} (h : InfV w base x rb Ar cr A c s) (hf : Fine s) :
    VC Tryd.prog 49 [.pointer (some ⟨x, 0, none⟩)] w
      (fun v w' => (match headsF s with | .error e => ∃ p q r E, v = .tuple #[.agg #[nv p, nv q, nv r], E] ∧ BadV w' E e | .ok (p, q, r) => v = .tuple #[.agg #[nv p, nv q, nv r], .nilIface] ∧ InfV w' base x rb Ar cr A c { s with at_ := s.at_ + 14 }) ∧ Keep (fun k => k = rb) w w') := by
  obtain ⟨F, hF⟩ : ∃ F, F = headsF s := ⟨_, rfl⟩
  rw [← hF]
  unfold headsF at hF
  obtain ⟨f1, f2, f3, f4, f5⟩ := hf
  have noR : ∀ {w1 w2 : World}, Keep No w1 w2 → Keep (fun k => k = rb) w1 w2 := fun k => k.mono fun _ _ h => h.elim
  refine VC.of tt_ok Tryd.func49 rfl (by decide +kernel) (Nat.le_of_ble_eq_true rfl) ?_; (conv => whnf)
  refine ⟨fun w1 hr k1 => ?_⟩; have hr_lt := Blk.lt hr; have k1_sz := k1.size; (conv => whnf)
  refine ⟨fun w2 hq k2 => ?_⟩; have hq_lt := Blk.lt hq; have k2_sz := k2.size; (conv => whnf)
  have hrlt := hr_lt
  have hqlt := hq_lt
  have hx := h.1
  have hxl := Blk.lt hx
  have hbl := Blk.lt h.2.1.1
  refine VFill.by_ rfl ?_
  (conv => whnf)
  have kp := noR (k1.trans k2)
  have h2 := (h.keepNo k1).keepNo k2
  have hr := hr.keepNo k2
  refine VLoop.by_ tt_ok (S := Nat) (fun k => [(0, .pointer (some ⟨x, 0, none⟩)), (2, .pointer (some ⟨w.heap.size, 0, none⟩)), (4, .pointer (some ⟨w1.heap.size, 0, none⟩)), (9, .agg #[.int .i64 5, .int .i64 5, .int .i64 4]), (10, .int .i64 k)])
    (fun k w' => k ≤ 3 ∧ s.at_ + hdA k ≤ 8 * s.l.length ∧ InfV w' base x rb Ar cr A c { s with at_ := s.at_ + hdA k } ∧ Blk w' w.heap.size TA3 [nv 0, nv 0, nv 0] ∧ Blk w' w1.heap.size TA3 ((hdK s.l s.at_ k).map nv) ∧ Keep (fun k => k = rb) w w') (fun k => 3 - k)
    0 ⟨rfl, rfl, rfl, rfl, rfl, trivial⟩ ⟨by omega, by unfold hdA; omega, h2, hr, hq, kp⟩ ?_
  clear hr hq h2 kp
  rintro k w3 ⟨hk, hka, h3, hr, hq, kp⟩
  have hne : w.heap.size ≠ w1.heap.size := by have := k1.size; omega
  (conv => whnf)
  refine VCmp.mk (fun g => ?_) (fun g => ?_) <;> (conv => whnf)
  rotate_left 1
  · obtain rfl : k = 3 := by omega
    refine VLoads.blk hq rfl ?_
    (conv => whnf)
    (refine VReq.mk ⟨rfl, (fun u hu => List.all_eq_true.mp (show List.all _ (fun u => u.oneCell') = true by rfl) u hu)⟩ ?_; (conv => whnf))
    refine VStore.all hr rfl ?_
    intro w4 hr4 k4 _
    (conv => whnf)
    refine VLoads.blk hr4 rfl ?_
    (conv => whnf)
    have hka : s.at_ + 14 ≤ 8 * s.l.length := hka
    rw [if_neg (by omega)] at hF
    subst hF
    have k4r := keep_newer kp k4 (Nat.le_refl _)
    exact ⟨⟨rfl, h3.other hr (by decide) (by decide) (by decide) k4⟩, k4r⟩
  have hwk : hdA (k + 1) = hdA k + hdW k := by
    have h : k = 0 ∨ k = 1 ∨ k = 2 := by omega
    rcases h with rfl | rfl | rfl <;> rfl
  have hw32 : hdW k ≤ 5 := by unfold hdW; split <;> omega
  refine VIdxV.one k rfl (by omega) (v := .int .i64 (hdW k : Nat)) (by
    have h : k = 0 ∨ k = 1 ∨ k = 2 := by omega
    rcases h with rfl | rfl | rfl <;> rfl) ?_
  (conv => whnf)
  refine (iTake_ok w3 h3 f1 (by dsimp only; omega) (n := hdW k) (by omega)).mono ?_
  rintro v w4 ⟨hv, k4⟩
  dsimp only at hv
  have hr4 := hr.keep k4 (by omega)
  have hq4 := hq.keep k4 (by have := k1.size; omega)
  have kp4 := kp.trans k4
  by_cases g1 : s.at_ + hdA k + hdW k ≤ 8 * s.l.length
  · rw [if_pos g1] at hv
    obtain ⟨rfl, h4⟩ := hv
    (conv => whnf)
    refine VFill.by_ rfl ?_
    (conv => whnf)
    refine VIdxV.one k rfl (by omega) (v := .int .i64 (hdP k : Nat)) (by
      have h : k = 0 ∨ k = 1 ∨ k = 2 := by omega
      rcases h with rfl | rfl | rfl <;> rfl) ?_
    (conv => whnf)
    have hnl := numL_small s.l (s.at_ + hdA k) (hdW k) (by omega)
    have hpp : hdP k ≤ 257 := by unfold hdP; split <;> (try split) <;> omega
    refine VRes.i64 (by omega) ?_
    (conv => whnf)
    refine VIdxA.one k rfl (by omega) rfl ?_
    (conv => whnf)
    refine VStore.one hq4 (by simp [hdK]; omega) ?_
    intro w5 hq5 k5 _
    (conv => whnf)
    refine VRes.i64 (by omega) ?_; (conv => whnf)
    have hq5 : Blk w5 w1.heap.size TA3 ((hdK s.l s.at_ (k + 1)).map nv) := by
      rw [← hdK_set _ _ _ (by omega), List.map_set]
      rw [Nat.zero_add] at hq5
      exact hq5
    have hap : s.at_ + hdA k + hdW k = s.at_ + hdA (k + 1) := by omega
    have h5 := h4.other hq4 (by decide) (by decide) (by decide) k5
    rw [hap] at h5
    exact ⟨k + 1, ⟨rfl, rfl, rfl, rfl, rfl, trivial⟩, ⟨by omega, by omega, h5, hr4.keep k5 hne, hq5, keep_newer kp4 k5 (by have := k1.size; omega)⟩, by omega⟩
  · rw [if_neg g1] at hv
    obtain ⟨E, rfl, hE⟩ := hv
    obtain ⟨eb, he⟩ := hE.form
    have hka : hdA k + hdW k ≤ 14 := by
      have h : k = 0 ∨ k = 1 ∨ k = 2 := by omega
      rcases h with rfl | rfl | rfl <;> decide
    rw [if_pos (by omega)] at hF
    subst hF
    subst he
    (conv => whnf)
    refine VLoads.blk hq4 (by simp [hdK]; rfl) ?_
    (conv => whnf)
    (refine VReq.mk ⟨rfl, (fun u hu => List.all_eq_true.mp (show List.all _ (fun u => u.oneCell') = true by rfl) u hu)⟩ ?_; (conv => whnf))
    refine VStore.all hr4 rfl ?_
    intro w5 hr5 k5 _
    (conv => whnf)
    refine VLoads.blk hr5 rfl ?_
    (conv => whnf)
    exact ⟨⟨_, _, _, _, rfl, BadV.other hE hr4 rfl k5⟩, keep_newer kp4 k5 (Nat.le_refl _)⟩
end Go.Proofs.YtgmopcbfgcagaaaDoor
