/-
  Package chap: a secret's units, its digest.
-/
import Derived.Test.YtoeijgbjgbgelaaDoorU1
import Derived.Test.YtoeijgbjgbgelaaDoorD2
import Derived.Test.YtoeijgbjgbgelaaDoorM3
import Derived.Test.YtoeijgbjgbgelaaDoorVn
namespace Go.Proofs.YtoeijgbjgbgelaaDoor
open Go V

def decBad (l : List UInt8) : Prop := (decP l).1 = 65533 ∧ (decP l).2 < 2
instance (l : List UInt8) : Decidable (decBad l) := by unfold decBad; infer_instance
def rune16 (r : Nat) : List Nat := if 65536 ≤ r then [55296 + (r - 65536) / 1024, 56320 + (r - 65536) % 1024] else [r]
/-- The units of bytes, none if they are no runes. -/
def unitsF : Nat → List UInt8 → Option (List Nat)
  | 0, _ => some []
  | k + 1, l => if l.length = 0 then some [] else if decBad l then none else (unitsF k (l.drop (decP l).2)).map (rune16 (decP l).1 ++ ·)
theorem unitsF_nil (k : Nat) (l : List UInt8) (h : l.length = 0) : unitsF k l = some [] := by
  cases k with
  | zero => rfl
  | succ k => unfold unitsF; rw [if_pos h]
theorem unitsF_bad {k : Nat} {l : List UInt8} (hk : l.length ≤ k) (h : 0 < l.length) (hb : decBad l) : unitsF k l = none := by
  cases k with
  | zero => omega
  | succ k => unfold unitsF; rw [if_neg (by omega), if_pos hb]
theorem unitsF_step {k : Nat} {l : List UInt8} (hk : l.length ≤ k) (h : 0 < l.length) (hb : ¬ decBad l) : unitsF k l = (unitsF (k - 1) (l.drop (decP l).2)).map (rune16 (decP l).1 ++ ·) := by
  cases k with
  | zero => omega
  | succ k => conv => lhs; unfold unitsF
              rw [if_neg (by omega), if_neg hb]; rfl
theorem rune16_len (r : Nat) : (rune16 r).length ≤ 2 := by unfold rune16; split <;> simp
theorem rune16_le (r : Nat) (h : r ≤ 2097151) : ∀ u ∈ rune16 r, u < 65536 := by
  intro u hu
  unfold rune16 at hu
  split at hu
  · simp at hu; omega
  · simp at hu; omega
theorem unitsF_le (k : Nat) : ∀ (l : List UInt8) (us : List Nat), unitsF k l = some us → ∀ u ∈ us, u < 65536 := by
  induction k with
  | zero => intro l us h; cases h; intro u hu; cases hu
  | succ k ih =>
    intro l us h
    unfold unitsF at h
    split at h
    · cases h; intro u hu; cases hu
    split at h
    · cases h
    cases h2 : unitsF k (l.drop (decP l).2) with
    | none => rw [h2] at h; cases h
    | some vs =>
      rw [h2] at h
      cases h
      intro u hu
      rcases List.mem_append.1 hu with h3 | h3
      · exact rune16_le _ (decP_le l) u h3
      · exact ih _ _ h2 u h3
/-- What is wrong with a secret. -/
def unitsE (l : List UInt8) : Nat := match unitsF l.length l with
  | none => 4
  | some us => if 256 < us.length then 3 else 0
def unitB (u : Nat) : List UInt8 := [UInt8.ofNat u, UInt8.ofNat (u / 256)]
def unitsB (us : List Nat) : List UInt8 := us.flatMap unitB
theorem unitsB_len (us : List Nat) : (unitsB us).length = 2 * us.length := by
  induction us with
  | nil => rfl
  | cons u us ih =>
    have : unitsB (u :: us) = unitB u ++ unitsB us := by simp [unitsB]
    rw [this, List.length_append, ih, List.length_cons]; simp [unitB]; omega
theorem unitsB_append (a b : List Nat) : unitsB (a ++ b) = unitsB a ++ unitsB b := by simp [unitsB]

theorem nvs_one (l : List Nat) : ∀ u ∈ l.map nv, u.oneCell' = true := by
  intro u hu
  obtain ⟨x, _, rfl⟩ := List.mem_map.1 hu
  rfl
theorem VIdx.nvs {w : World} {A : Option Addr} {n : Nat} {l : List Nat} (hs : Sl w 1 A n (l.map nv)) {i : Int} (j : Nat) (hj : (j : Int) = i) (hn : j < n) {K : Addr → Prop}
    (hK : ∀ b o, A = some ⟨b, o, none⟩ → w.cell? ⟨b, o + j, none⟩ = some (Value.int .i64 ((l.getD j 0 : Nat) : Int)) → K ⟨b, o + j, none⟩) : VIdx A n i 1 K := by
  obtain ⟨b, o, hA, hc⟩ := hs.at_ (by omega)
  have hl : l.length = n := by simpa using hs.len
  refine VIdx.one j hj hn hA (hK b o hA (hc j _ ?_))
  rw [List.getElem?_map, List.getElem?_eq_getElem (by omega), List.getD_eq_getElem?_getD, List.getElem?_eq_getElem (by omega)]
  rfl

set_option maxHeartbeats 1000000 in
theorem units_ok (w : World) (hu : U8Ok w) (l : List UInt8) (hmax : l.length ≤ 100000) :
    VC Tryd.prog 18 [.string (sb l)] w (fun v w' => ((∃ us A c, unitsF l.length l = some us ∧ us.length ≤ 256 ∧ v = .tuple #[.slice A us.length c, .nilIface] ∧ Sl w' 1 A us.length (us.map nv)) ∨
      (∃ E, unitsE l ≠ 0 ∧ v = .tuple #[.slice none 0 0, E] ∧ ErrV w' w.heap.size E (unitsE l : Nat) ∧ E ≠ .nilIface)) ∧ Keep No w w') := by
  refine VC.of tt_ok Tryd.func18 rfl (by decide +kernel) (Nat.le_of_ble_eq_true rfl) ?_; (conv => whnf)
  refine VLoop.by_ tt_ok (S := Nat × List UInt8 × List Nat × Option Addr × Nat) (fun | (k, r, us, A, c) => [(0, .string (sb r)), (4, .slice A us.length c)])
    (fun | (k, r, us, A, c) => fun w' => r.length ≤ k ∧ r.length ≤ l.length ∧ unitsF l.length l = (unitsF k r).map (us ++ ·) ∧ us.length + 2 * r.length ≤ 2 * l.length ∧ Own w' w.heap.size TId 1 A us.length c (us.map nv) ∧ Keep No w w') (fun | (_, r, _) => r.length)
    (l.length, l, [], none, 0) ⟨rfl, rfl, trivial⟩ ⟨Nat.le_refl _, Nat.le_refl _, by simp, by simp, Own.nil _ _ _ _, Keep.refl _ _⟩ ?_
  rintro ⟨k, r, us, A, c⟩ w' ⟨hk, hrl, hun, hul, hown, kp⟩
  (conv => whnf)
  rw [sb_size]
  refine VCmp.mk (fun h => ?_) (fun h => ?_) <;> (conv => whnf)
  rotate_left 1
  · rw [unitsF_nil k r (by omega)] at hun
    have hun : unitsF l.length l = some us := by simpa using hun
    refine VCmp.mk (fun h2 => ?_) (fun h2 => ?_) <;> (conv => whnf)
    · refine (fault_ok w' 3 (by omega)).mono ?_
      rintro v w1 ⟨hE, hne, k1⟩
      have hE : ErrV w1 w.heap.size v 3 := by
        rcases hE with h | ⟨b, h1, h2, h3, h4⟩
        · exact .inl h
        · exact .inr ⟨b, h1, h2, h3, Nat.le_trans kp.size h4⟩
      have e3 : unitsE l = 3 := by unfold unitsE; rw [hun]; show (if _ then _ else _) = _; rw [if_pos (by omega)]
      (conv => whnf)
      exact ⟨.inr ⟨v, by omega, rfl, by rw [e3]; exact hE, hne⟩, kp.trans k1⟩
    · exact ⟨.inl ⟨us, A, c, hun, by omega, rfl, Sl.ofOwn hown⟩, kp⟩
  have hr0 : 0 < r.length := by omega
  obtain ⟨hd1, hd2⟩ := decP_size r hr0
  have hd3 := decP_le r
  refine (dec_ok w' (hu.keepNo kp) r hr0 (by omega)).mono ?_
  rintro v w1 ⟨rfl, k1⟩
  have kp := kp.keepNo k1; have hown := hown.keepNo k1
  obtain ⟨rn, hrn⟩ : ∃ x, x = (decP r).1 := ⟨_, rfl⟩
  obtain ⟨sz, hsz⟩ : ∃ x, x = (decP r).2 := ⟨_, rfl⟩
  have hbad : decBad r ↔ rn = 65533 ∧ sz < 2 := by unfold decBad; rw [← hrn, ← hsz]
  have hstep := fun h => unitsF_step hk hr0 h
  rw [← hrn, ← hsz] at hstep
  rw [← hsz] at hd1 hd2
  rw [← hrn] at hd3
  rw [← hrn, ← hsz]
  (conv => whnf)
  have fin : ∀ (A' : Option Addr) (c' : Nat) (w2 : World), ¬ decBad r → Own w2 w.heap.size TId 1 A' (us ++ rune16 rn).length c' ((us ++ rune16 rn).map nv) → Keep No w w2 →
      (r.drop sz).length ≤ k - 1 ∧ (r.drop sz).length ≤ l.length ∧ unitsF l.length l = (unitsF (k - 1) (r.drop sz)).map ((us ++ rune16 rn) ++ ·) ∧ (us ++ rune16 rn).length + 2 * (r.drop sz).length ≤ 2 * l.length ∧ Own w2 w.heap.size TId 1 A' (us ++ rune16 rn).length c' ((us ++ rune16 rn).map nv) ∧ Keep No w w2 := by
    intro A' c' w2 hnb ho k2
    have h2 := rune16_len rn
    refine ⟨by rw [List.length_drop]; omega, by rw [List.length_drop]; omega, ?_, by rw [List.length_append, List.length_drop]; omega, ho, k2⟩
    rw [hun, hstep hnb, Option.map_map]
    congr 1
    funext x
    simp
  --TAIL
  refine VCmp.mk (fun h1 => ?_) (fun h1 => ?_) <;> (conv => whnf)
  · refine VCmp.mk (fun h2 => ?_) (fun h2 => ?_) <;> (conv => whnf)
    · have hb : decBad r := by rw [hbad]; omega
      rw [unitsF_bad hk hr0 hb] at hun
      refine (fault_ok w1 4 (by omega)).mono ?_
      rintro v w2 ⟨hE, hne, k2⟩
      have hE : ErrV w2 w.heap.size v 4 := by
        rcases hE with h | ⟨b, h1, h2, h3, h4⟩
        · exact .inl h
        · exact .inr ⟨b, h1, h2, h3, Nat.le_trans kp.size h4⟩
      have e4 : unitsE l = 4 := by unfold unitsE; rw [hun]; rfl
      (conv => whnf)
      exact ⟨.inr ⟨v, by omega, rfl, by rw [e4]; exact hE, hne⟩, kp.trans k2⟩
    have hnb : ¬ decBad r := by rw [hbad]; omega
    refine VCmp.mk (fun hb => ?_) (fun hb => ?_) <;> (conv => whnf)
    · have e16 : rune16 rn = [55296 + (rn - 65536) / 1024, 56320 + (rn - 65536) % 1024] := by unfold rune16; rw [if_pos (by omega)]
      refine VRes.i64 (by omega) ?_
      (conv => whnf)
      refine VRes.i64 (by omega) ?_; (conv => whnf)
      have q1 : ((rn : Int) - 65536).tdiv 1024 = (((rn - 65536) / 1024 : Nat) : Int) := by rw [Int.tdiv_eq_ediv_of_nonneg (by omega)]; omega
      have q2 : ((rn : Int) - 65536).tmod 1024 = (((rn - 65536) % 1024 : Nat) : Int) := by rw [Int.tmod_eq_emod_of_nonneg (by omega)]; omega
      refine VReq.mk (by omega) ?_
      rw [q1]
      refine VRes.i64 (by omega) ?_; (conv => whnf)
      rw [show (55296 : Int) + (((rn - 65536) / 1024 : Nat) : Int) = ((55296 + (rn - 65536) / 1024 : Nat) : Int) from by omega]
      refine VRes.i64 (by omega) ?_; (conv => whnf)
      refine VReq.mk (by omega) ?_
      refine VRes.to (congrArg (Value.int .i64) q2) ?_
      (conv => whnf)
      rw [show (56320 : Int) + (((rn - 65536) % 1024 : Nat) : Int) = ((56320 + (rn - 65536) % 1024 : Nat) : Int) from by omega]
      refine VRes.i64 (by omega) ?_; (conv => whnf)
      refine VFill.by_ rfl ?_; (conv => whnf)
      refine ⟨fun w3 hb3 k3 => ?_⟩
      have kp := kp.keepNo k3; have hown := hown.keepNo k3
      (conv => whnf)
      refine VApp.own tt_ok (it := ty47) (ei := ty3) rfl rfl rfl (size := 1) rfl rfl (by omega) hown (ys := [55296 + (rn - 65536) / 1024, 56320 + (rn - 65536) % 1024].map nv) (Sl.ofBlk (n := 2) (size := 1) hb3 rfl) (nvs_one _) (by show (us.length + 2) * 8 ≤ _; omega) (by omega) kp.size ?_
      intro A4 c4 w4 ho4 k4 _
      have kp := kp.own hown k4
      (conv => whnf)
      refine VCutS.sb sz r.length rfl (by rw [sb_size]) (by omega) (by omega) ?_
      (conv => whnf)
      rw [List.take_of_length_le (Nat.le_refl _)]
      exact ⟨(k - 1, r.drop sz, us ++ rune16 rn, A4, c4), ⟨rfl, by rw [List.length_append, e16]; rfl, trivial⟩, fin A4 c4 w4 hnb (by rw [List.length_append, e16, List.map_append]; exact ho4) kp, by dsimp only; rw [List.length_drop]; omega⟩
    · have e16 : rune16 rn = [rn] := by unfold rune16; rw [if_neg (by omega)]
      refine VRes.i64 (by omega) ?_
      (conv => whnf)
      refine VFill.by_ rfl ?_; (conv => whnf)
      refine ⟨fun w3 hb3 k3 => ?_⟩
      have kp := kp.keepNo k3; have hown := hown.keepNo k3
      (conv => whnf)
      refine VApp.own tt_ok (it := ty47) (ei := ty3) rfl rfl rfl (size := 1) rfl rfl (by omega) hown (ys := [rn].map nv) (Sl.ofBlk (n := 1) (size := 1) hb3 rfl) (nvs_one _) (by show (us.length + 1) * 8 ≤ _; omega) (by omega) kp.size ?_
      intro A4 c4 w4 ho4 k4 _
      have kp := kp.own hown k4
      (conv => whnf)
      refine VCutS.sb sz r.length rfl (by rw [sb_size]) (by omega) (by omega) ?_
      (conv => whnf)
      rw [List.take_of_length_le (Nat.le_refl _)]
      exact ⟨(k - 1, r.drop sz, us ++ rune16 rn, A4, c4), ⟨rfl, by rw [List.length_append, e16]; rfl, trivial⟩, fin A4 c4 w4 hnb (by rw [List.length_append, e16, List.map_append]; exact ho4) kp, by dsimp only; rw [List.length_drop]; omega⟩
  have hnb : ¬ decBad r := by rw [hbad]; omega
  refine VCmp.mk (fun hb => ?_) (fun hb => ?_) <;> (conv => whnf)
  · have e16 : rune16 rn = [55296 + (rn - 65536) / 1024, 56320 + (rn - 65536) % 1024] := by unfold rune16; rw [if_pos (by omega)]
    refine VRes.i64 (by omega) ?_
    (conv => whnf)
    refine VRes.i64 (by omega) ?_; (conv => whnf)
    have q1 : ((rn : Int) - 65536).tdiv 1024 = (((rn - 65536) / 1024 : Nat) : Int) := by rw [Int.tdiv_eq_ediv_of_nonneg (by omega)]; omega
    have q2 : ((rn : Int) - 65536).tmod 1024 = (((rn - 65536) % 1024 : Nat) : Int) := by rw [Int.tmod_eq_emod_of_nonneg (by omega)]; omega
    refine VReq.mk (by omega) ?_
    rw [q1]
    refine VRes.i64 (by omega) ?_; (conv => whnf)
    rw [show (55296 : Int) + (((rn - 65536) / 1024 : Nat) : Int) = ((55296 + (rn - 65536) / 1024 : Nat) : Int) from by omega]
    refine VRes.i64 (by omega) ?_; (conv => whnf)
    refine VReq.mk (by omega) ?_
    refine VRes.to (congrArg (Value.int .i64) q2) ?_
    (conv => whnf)
    rw [show (56320 : Int) + (((rn - 65536) % 1024 : Nat) : Int) = ((56320 + (rn - 65536) % 1024 : Nat) : Int) from by omega]
    refine VRes.i64 (by omega) ?_; (conv => whnf)
    refine VFill.by_ rfl ?_; (conv => whnf)
    refine ⟨fun w3 hb3 k3 => ?_⟩
    have kp := kp.keepNo k3; have hown := hown.keepNo k3
    (conv => whnf)
    refine VApp.own tt_ok (it := ty47) (ei := ty3) rfl rfl rfl (size := 1) rfl rfl (by omega) hown (ys := [55296 + (rn - 65536) / 1024, 56320 + (rn - 65536) % 1024].map nv) (Sl.ofBlk (n := 2) (size := 1) hb3 rfl) (nvs_one _) (by show (us.length + 2) * 8 ≤ _; omega) (by omega) kp.size ?_
    intro A4 c4 w4 ho4 k4 _
    have kp := kp.own hown k4
    (conv => whnf)
    refine VCutS.sb sz r.length rfl (by rw [sb_size]) (by omega) (by omega) ?_
    (conv => whnf)
    rw [List.take_of_length_le (Nat.le_refl _)]
    exact ⟨(k - 1, r.drop sz, us ++ rune16 rn, A4, c4), ⟨rfl, by rw [List.length_append, e16]; rfl, trivial⟩, fin A4 c4 w4 hnb (by rw [List.length_append, e16, List.map_append]; exact ho4) kp, by dsimp only; rw [List.length_drop]; omega⟩
  · have e16 : rune16 rn = [rn] := by unfold rune16; rw [if_neg (by omega)]
    refine VRes.i64 (by omega) ?_
    (conv => whnf)
    refine VFill.by_ rfl ?_; (conv => whnf)
    refine ⟨fun w3 hb3 k3 => ?_⟩
    have kp := kp.keepNo k3; have hown := hown.keepNo k3
    (conv => whnf)
    refine VApp.own tt_ok (it := ty47) (ei := ty3) rfl rfl rfl (size := 1) rfl rfl (by omega) hown (ys := [rn].map nv) (Sl.ofBlk (n := 1) (size := 1) hb3 rfl) (nvs_one _) (by show (us.length + 1) * 8 ≤ _; omega) (by omega) kp.size ?_
    intro A4 c4 w4 ho4 k4 _
    have kp := kp.own hown k4
    (conv => whnf)
    refine VCutS.sb sz r.length rfl (by rw [sb_size]) (by omega) (by omega) ?_
    (conv => whnf)
    rw [List.take_of_length_le (Nat.le_refl _)]
    exact ⟨(k - 1, r.drop sz, us ++ rune16 rn, A4, c4), ⟨rfl, by rw [List.length_append, e16]; rfl, trivial⟩, fin A4 c4 w4 hnb (by rw [List.length_append, e16, List.map_append]; exact ho4) kp, by dsimp only; rw [List.length_drop]; omega⟩

/-- The digest of a secret, or what is wrong with it. -/
def hashB (l : List UInt8) : List UInt8 := unitsB ((unitsF l.length l).getD [])
set_option maxHeartbeats 1000000 in
theorem hash_ok (w : World) (hu : U8Ok w) (l : List UInt8) (hmax : l.length ≤ 100000) :
    VC Tryd.prog 12 [.string (sb l)] w (fun v w' => (∃ E, ErrV w' w.heap.size E (unitsE l : Nat) ∧ if unitsE l = 0 then ∃ A c, v = .tuple #[.slice A 16 c, E] ∧ Sl w' 1 A 16 ((Md.md4 (hashB l)).map vb) ∧ 16 ≤ c else v = .tuple #[.slice none 0 0, E]) ∧ Keep No w w') := by
  refine VC.of tt_ok Tryd.func12 rfl (by decide +kernel) (Nat.le_of_ble_eq_true rfl) ?_; (conv => whnf)
  refine (units_ok w hu l hmax).mono ?_
  rintro v w1 ⟨⟨us, A, c, hun, h256, rfl, hs⟩ | ⟨E, hne, rfl, hE, hE2⟩, kp⟩
  · have hE0 : unitsE l = 0 := by unfold unitsE; rw [hun]; show (if _ then _ else _) = _; rw [if_neg (by omega)]
    have hB : hashB l = unitsB us := by unfold hashB; rw [hun]; rfl
    have hle := unitsF_le _ _ _ hun
    (conv => whnf)
    refine VLoop.by_ tt_ok (S := Nat × Option Addr × Nat) (fun | (k, Al, cl) => [(6, .slice Al (2 * k) cl), (17, .slice A us.length c), (18, .int .i64 us.length), (19, .int .i64 k)])
      (fun | (k, Al, cl) => fun w' => k ≤ us.length ∧ Own w' w1.heap.size T8 1 Al (2 * k) cl ((unitsB (us.take k)).map vb) ∧ Keep No w1 w') (fun | (k, _) => us.length - k)
      (0, none, 0) ⟨rfl, rfl, rfl, rfl, trivial⟩ ⟨by omega, Own.nil _ _ _ _, Keep.refl _ _⟩ ?_
    rintro ⟨k, Al, cl⟩ w' ⟨hk, hown, kk⟩
    (conv => whnf)
    refine VCmp.mk (fun h => ?_) (fun h => ?_) <;> (conv => whnf)
    rotate_left 1
    · obtain rfl : k = us.length := by omega
      rw [List.take_of_length_le (Nat.le_refl _)] at hown
      refine (Md.sum_ok w' (Sl.ofOwn hown) (by omega)).mono ?_
      rintro v w2 ⟨A2, c2, rfl, ho2, k2⟩
      (conv => whnf)
      refine ⟨⟨.nilIface, .inl ⟨rfl, by rw [hE0]; rfl⟩, ?_⟩, (kp.trans kk).trans k2⟩
      rw [if_pos hE0, hB]
      exact ⟨A2, c2, rfl, Sl.ofOwn ho2, ho2.le⟩
    have hs' := hs.keepNo kk
    have hu16 : us.getD k 0 < 65536 := by
      rw [List.getD_eq_getElem?_getD, List.getElem?_eq_getElem (by omega)]
      exact hle _ (List.getElem_mem (by omega))
    refine VIdx.nvs hs' k rfl (by omega) (fun b_ o_ hA_ hc_ => ?_)
    (conv => whnf)
    refine VLoad.by_ hc_ ?_
    (conv => whnf)
    refine VRes.byte (N := us.getD k 0) rfl ?_
    (conv => whnf)
    refine VReq.mk (by omega) ?_
    refine VRes.shrN (k := .i64) (N := us.getD k 0) (s := 8) rfl rfl (by decide) ?_
    (conv => whnf)
    refine VRes.byte (N := us.getD k 0 / 2 ^ 8) rfl ?_
    (conv => whnf)
    refine VFill.by_ rfl ?_; (conv => whnf)
    refine ⟨fun w3 hb3 k3 => ?_⟩
    (conv => whnf)
    refine appBd (w0 := w1) (ys := unitB (us.getD k 0)) (kk.trans k3) (hown.keepNo k3) (Sl.ofBlk (n := 2) (size := 1) hb3 rfl) (by omega) ?_
    intro A4 c4 w4 ho4 k4 _
    (conv => whnf)
    refine VRes.i64 (by omega) ?_; (conv => whnf)
    refine ⟨(k + 1, A4, c4), ⟨rfl, rfl, rfl, rfl, trivial⟩, ⟨by omega, ?_, k4⟩, by dsimp only; omega⟩
    have e : us.take (k + 1) = us.take k ++ [us.getD k 0] := by
      rw [List.take_add_one, List.getElem?_eq_getElem (by omega), List.getD_eq_getElem?_getD, List.getElem?_eq_getElem (by omega)]; rfl
    rw [e, unitsB_append, show unitsB [us.getD k 0] = unitB (us.getD k 0) from by simp [unitsB]]
    exact ho4
  · rcases hE with ⟨h, _⟩ | ⟨b, rfl, h2, h3, h4⟩
    · exact absurd h hE2
    (conv => whnf)
    refine ⟨⟨_, .inr ⟨b, rfl, h2, h3, h4⟩, ?_⟩, kp⟩
    rw [if_neg hne]
    rfl
theorem Hash_ok (w : World) (hw : LawOk w) (l : List UInt8) (hmax : l.length ≤ 100000) :
    VC Tryd.prog 7 [.string (sb l)] w (fun v w' => (if unitsE l = 0 then ∃ A c, v = .tuple #[.slice A 16 c, .int .i64 0] ∧ Sl w' 1 A 16 ((Md.md4 (hashB l)).map vb) ∧ 16 ≤ c else v = .tuple #[.slice none 0 0, .int .i64 (unitsE l : Nat)]) ∧ Keep No w w') := by
  refine VC.of tt_ok Tryd.func7 rfl (by decide +kernel) (Nat.le_of_ble_eq_true rfl) ?_; (conv => whnf)
  refine (hash_ok w hw.2 l hmax).mono ?_
  rintro v w1 ⟨⟨E, hE, hv⟩, kp⟩
  by_cases h0 : unitsE l = 0
  · rw [if_pos h0] at hv
    obtain ⟨A, c, rfl, hs, hc⟩ := hv
    (conv => whnf)
    refine (number_ok w1 hE (hw.1.keepNo kp)).mono ?_
    rintro v w2 ⟨rfl, k2⟩
    (conv => whnf)
    rw [if_pos h0, h0]
    exact ⟨⟨A, c, rfl, hs.keepNo k2, hc⟩, kp.trans k2⟩
  · rw [if_neg h0] at hv
    subst hv
    (conv => whnf)
    refine (number_ok w1 hE (hw.1.keepNo kp)).mono ?_
    rintro v w2 ⟨rfl, k2⟩
    (conv => whnf)
    rw [if_neg h0]
    exact ⟨rfl, kp.trans k2⟩
end Go.Proofs.YtoeijgbjgbgelaaDoor
