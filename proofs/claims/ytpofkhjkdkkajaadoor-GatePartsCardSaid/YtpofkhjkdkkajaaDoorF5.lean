/-
  Frames: Decode; the reference's.
-/
import Derived.Test.YtpofkhjkdkkajaaDoorF4
import Derived.Test.YtpofkhjkdkkajaaDoorVr
namespace Go.Proofs.YtpofkhjkdkkajaaDoor
open Go V

/-- A frame's protocol, and what is left; or what is wrong. -/
def fieldP (l : List UInt8) (f : Fo) : Int × List UInt8 × Int :=
  if l.length = 0 then (0, [], 2) else
  if (l.getD 0 0).toNat % 2 = 1 ∧ f.pfc = false then (0, [], 4) else
  if (l.getD 0 0).toNat % 2 = 1 then ((((l.getD 0 0).toNat : Nat) : Int), l.drop 1, 0) else
  if l.length = 1 then (0, [], 2) else
  if (l.getD 1 0).toNat % 2 = 0 then (0, [], 4) else
  (((two (l.getD 0 0) (l.getD 1 0) : Nat) : Int), l.drop 2, 0)
/-- What is behind address and control. -/
def skipP (l : List UInt8) (f : Fo) : Option (List UInt8) :=
  if 2 ≤ l.length ∧ (l.getD 0 0).toNat = 255 ∧ (l.getD 1 0).toNat = 3 then some (l.drop 2) else if f.acfc then some l else none
def decF (l : List UInt8) (f : Fo) : Int × List UInt8 × Int :=
  match skipP l f with
  | none => (0, [], 4)
  | some r => if (fieldP r f).2.2 = 0 ∧ 1516 < (fieldP r f).2.1.length then (0, [], 3) else fieldP r f
theorem fieldP_len (l : List UInt8) (f : Fo) : (fieldP l f).2.1.length ≤ l.length := by
  unfold fieldP
  split
  · simp
  · split
    · simp
    · split
      · simp
      · split
        · simp
        · split <;> simp
theorem decF_len (l : List UInt8) (f : Fo) : (decF l f).2.1.length ≤ l.length := by
  unfold decF skipP
  split
  · simp
  · rename_i r hr
    have := fieldP_len r f
    have hrl : r.length ≤ l.length := by
      split at hr
      · injection hr with hr; rw [← hr, List.length_drop]; omega
      · split at hr
        · injection hr with hr; rw [hr]; exact Nat.le_refl _
        · cases hr
    split
    · simp
    · omega
theorem fieldP_bad (l : List UInt8) (f : Fo) (h : (fieldP l f).2.2 ≠ 0) : fieldP l f = (0, [], (fieldP l f).2.2) := by
  unfold fieldP at h ⊢
  split
  · rfl
  · split
    · rfl
    · split
      · rename_i h1 h2 h3
        rw [if_neg h1, if_neg h2, if_pos h3] at h
        exact absurd rfl h
      · split
        · rfl
        · split
          · rfl
          · rename_i h1 h2 h3 h4 h5
            rw [if_neg h1, if_neg h2, if_neg h3, if_neg h4, if_neg h5] at h
            exact absurd rfl h

/-- What field tells. -/
def FieldV (w : World) (base : Nat) (v : Value) (r : Int × List UInt8 × Int) : Prop := ∃ A n c E, v = .tuple #[.int .i64 r.1, .slice A n c, E] ∧ Sl w 1 A n (r.2.1.map vb) ∧ n ≤ c ∧ ErrV w base E r.2.2
theorem FieldV.bad {w : World} {base : Nat} {E : Value} {k : Int} (h : ErrV w base E k) : FieldV w base (.tuple #[.int .i64 0, .slice none 0 0, E]) (0, [], k) := ⟨none, 0, 0, E, rfl, Sl.nil, Nat.le_refl _, h⟩

theorem field_ok (w : World) {A : Option Addr} {n c : Nat} {l : List UInt8} (f : Fo) (hs : Sl w 1 A n (l.map vb)) (hn : n ≤ 1000000) (hnc : n ≤ c) :
    VC Tryd.prog 55 [.slice A n c, f.v] w (fun v w' => FieldV w' w.heap.size v (fieldP l f) ∧ Keep No w w') := by
  have hl : l.length = n := by simpa using hs.len
  unfold Fo.v
  refine VC.of tt_ok Tryd.func55 rfl (by decide +kernel) (Nat.le_of_ble_eq_true rfl) ?_; (conv => whnf)
  refine ⟨fun w1 hb kp => ?_⟩; have hb_lt := Blk.lt hb; have kp_sz := kp.size; (conv => whnf)
  have b0 := (l.getD 0 0).toNat_lt
  have b1 := (l.getD 1 0).toNat_lt
  have bad : ∀ k, k ≠ 0 → fieldP l f = (0, [], k) → VC Tryd.prog 54 [.int .i64 k] w1 (fun v w' => FieldV w' w.heap.size (.tuple #[.int .i64 0, .slice none 0 0, v]) (fieldP l f) ∧ Keep No w w') := by
    intro k hk e
    rw [e]
    refine (fault_ok w1 k hk).mono ?_
    rintro v w2 ⟨hv, _, hk2⟩
    refine ⟨FieldV.bad ?_, kp.trans hk2⟩
    rcases hv with h | ⟨b, h1, h2, h3, h4⟩
    · exact .inl h
    · exact .inr ⟨b, h1, h2, h3, by have := kp.size; omega⟩
  refine VCmp.mk (fun h => ?_) (fun h => ?_) <;> (conv => whnf)
  · refine (bad 2 (by decide) (by unfold fieldP; rw [if_pos (by omega)])).mono ?_
    rintro v w2 h
    (conv => whnf)
    exact h
  refine VIdx.sl (hs.keepNo kp) (0) (by first | rfl | omega) (by omega) (fun b_ o_ hA_ hc_ => ?_); (conv => whnf); refine VLoad.by_ hc_ ?_; (conv => whnf)
  refine VRes.odd8 rfl rfl ?_
  (conv => whnf)
  have e0 : fieldP l f = if (l.getD 0 0).toNat % 2 = 1 ∧ f.pfc = false then (0, [], 4) else if (l.getD 0 0).toNat % 2 = 1 then ((((l.getD 0 0).toNat : Nat) : Int), l.drop 1, 0) else if l.length = 1 then (0, [], 2) else if (l.getD 1 0).toNat % 2 = 0 then (0, [], 4) else (((two (l.getD 0 0) (l.getD 1 0) : Nat) : Int), l.drop 2, 0) := by
    unfold fieldP; rw [if_neg (by omega)]
  refine VCmp.mk (fun h1 => ?_) (fun h1 => ?_) <;> (conv => whnf)
  · refine VLoad.by_ ((hb).cell 1) ?_; (conv => whnf)
    cases hq : f.pfc with
    | false =>
      (conv => whnf)
      refine (bad 4 (by decide) (by rw [e0, if_pos ⟨by omega, hq⟩])).mono ?_
      rintro v w2 h
      (conv => whnf)
      exact h
    | true =>
      (conv => whnf)
      refine VIdx.sl (hs.keepNo kp) (0) (by first | rfl | omega) (by omega) (fun b_ o_ hA_ hc_ => ?_); (conv => whnf); refine VLoad.by_ hc_ ?_; (conv => whnf)
      refine VRes.odd8 rfl rfl ?_
      (conv => whnf)
      refine VCmp.mk (fun _ => ?_) (fun h => absurd h1 h)
      (conv => whnf)
      refine VDraw.by_ tt_ok rfl (.take 0 (.take 1 (.take 2 (.take 3 (.take 4 (.take 5 (.take 6 (.take 7 (.take 8 .done))))))))) (by decide +kernel) _ (fun x h1 h2 h3 h4 => Keep.ofHeap h1 h2 h3 h4) (fun wd hd kd => ?_)
      have hs1 := hs.keepNo kp
      have kp1 := kp.trans kd
      (conv => whnf)
      refine VIdx.sl (hs1) (0) (by first | rfl | omega) (by omega) (fun b_ o_ hA_ hc_ => ?_); (conv => whnf); refine VLoad.keep hc_ ?_; (conv => whnf)
      refine VRes.i64 (by omega) ?_; (conv => whnf)
      refine VReq.mk hnc ?_
      refine VCut.by_ 1 n rfl rfl (by omega) (by omega) ?_
      intro A5 hA5
      have hcut := Sl.cut8 (hs.keepNo kp1) (l := 1) (h := n) (by omega) (Nat.le_refl _) hnc hA5
      rw [List.take_of_length_le (by omega)] at hcut
      (conv => whnf)
      rw [e0, if_neg (by rw [hq]; simp), if_pos (by omega)]
      exact ⟨⟨A5, n - 1, c - 1, .nilIface, rfl, hcut, by omega, .inl ⟨rfl, rfl⟩⟩, kp1⟩
  have e1 : fieldP l f = if l.length = 1 then (0, [], 2) else if (l.getD 1 0).toNat % 2 = 0 then (0, [], 4) else (((two (l.getD 0 0) (l.getD 1 0) : Nat) : Int), l.drop 2, 0) := by
    rw [e0, if_neg (fun h => by omega), if_neg (by omega)]
  refine VIdx.sl (hs.keepNo kp) (0) (by first | rfl | omega) (by omega) (fun b_ o_ hA_ hc_ => ?_); (conv => whnf); refine VLoad.by_ hc_ ?_; (conv => whnf)
  refine VRes.odd8 rfl rfl ?_
  (conv => whnf)
  refine VCmp.mk (fun h => absurd h h1) (fun _ => ?_)
  (conv => whnf)
  refine VCmp.mk (fun h2 => ?_) (fun h2 => ?_) <;> (conv => whnf)
  · refine (bad 2 (by decide) (by rw [e1, if_pos (by omega)])).mono ?_
    rintro v w2 h
    (conv => whnf)
    exact h
  refine VIdx.sl (hs.keepNo kp) (1) (by first | rfl | omega) (by omega) (fun b_ o_ hA_ hc_ => ?_); (conv => whnf); refine VLoad.by_ hc_ ?_; (conv => whnf)
  refine VRes.odd8 rfl rfl ?_
  (conv => whnf)
  refine VCmp.mk (fun h3 => ?_) (fun h3 => ?_) <;> (conv => whnf)
  · refine (bad 4 (by decide) (by rw [e1, if_neg (by omega), if_pos (by omega)])).mono ?_
    rintro v w2 h
    (conv => whnf)
    exact h
  refine VDraw.by_ tt_ok rfl (.take 0 (.take 1 (.take 2 (.take 3 (.take 4 (.take 5 (.take 6 (.take 7 (.take 8 (.take 9 (.take 10 (.take 11 (.take 12 (.take 13 (.take 14 .done))))))))))))))) (by decide +kernel) _ (fun x h1 h2 h3 h4 => Keep.ofHeap h1 h2 h3 h4) (fun wd hd kd => ?_)
  have hs1 := hs.keepNo kp
  have kp1 := kp.trans kd
  (conv => whnf)
  refine VIdx.sl (hs1) (0) (by first | rfl | omega) (by omega) (fun b_ o_ hA_ hc_ => ?_); (conv => whnf); refine VLoad.keep hc_ ?_; (conv => whnf)
  refine VRes.i64 (by omega) ?_; (conv => whnf)
  refine VReq.mk (by omega) ?_
  refine VRes.shl8 rfl rfl ?_
  (conv => whnf)
  refine VIdx.sl (hs1) (1) (by first | rfl | omega) (by omega) (fun b_ o_ hA_ hc_ => ?_); (conv => whnf); refine VLoad.keep hc_ ?_; (conv => whnf)
  refine VRes.i64 (by omega) ?_; (conv => whnf)
  refine VRes.or2 rfl rfl ?_
  (conv => whnf)
  refine VReq.mk hnc ?_
  refine VCut.by_ 2 n rfl rfl (by omega) (by omega) ?_
  intro A5 hA5
  have hcut := Sl.cut8 (hs.keepNo kp1) (l := 2) (h := n) (by omega) (Nat.le_refl _) hnc hA5
  rw [List.take_of_length_le (by omega)] at hcut
  (conv => whnf)
  rw [e1, if_neg (by omega), if_neg (by omega)]
  exact ⟨⟨A5, n - 2, c - 2, .nilIface, rfl, hcut, by omega, .inl ⟨rfl, rfl⟩⟩, kp1⟩

/-- What read tells. -/
def ReadV (w : World) (base : Nat) (v : Value) (r : Int × List UInt8 × Int) : Prop := ∃ A c E, v = .tuple #[.int .i64 r.1, .slice A r.2.1.length c, E] ∧ Own w base T8 1 A r.2.1.length c (r.2.1.map vb) ∧ ErrV w base E r.2.2

theorem read_ok (w : World) {A : Option Addr} {n c : Nat} {l : List UInt8} (f : Fo) (hs : Sl w 1 A n (l.map vb)) (hn : n ≤ 1000000) (hnc : n ≤ c) :
    VC Tryd.prog 46 [.slice A n c, f.v] w (fun v w' => ReadV w' w.heap.size v (decF l f) ∧ Keep No w w') := by
  have hl : l.length = n := by simpa using hs.len
  unfold Fo.v
  refine VC.of tt_ok Tryd.func46 rfl (by decide +kernel) (Nat.le_of_ble_eq_true rfl) ?_; (conv => whnf)
  refine ⟨fun w1 hb kp => ?_⟩; have hb_lt := Blk.lt hb; have kp_sz := kp.size; (conv => whnf)
  have b0 := (l.getD 0 0).toNat_lt
  have b1 := (l.getD 1 0).toNat_lt
  refine VCmp.mk (fun h => ?_) (fun h => ?_) <;> (conv => whnf)
  · refine VIdx.sl (hs.keepNo kp) (0) (by first | rfl | omega) (by omega) (fun b_ o_ hA_ hc_ => ?_); (conv => whnf); refine VLoad.by_ hc_ ?_; (conv => whnf)
    refine VCmp.mk (fun h1 => ?_) (fun h1 => ?_) <;> (conv => whnf)
    · refine VIdx.sl (hs.keepNo kp) (1) (by first | rfl | omega) (by omega) (fun b_ o_ hA_ hc_ => ?_); (conv => whnf); refine VLoad.by_ hc_ ?_; (conv => whnf)
      refine VCmp.mk (fun h2 => ?_) (fun h2 => ?_) <;> (conv => whnf)
      · have hsk : skipP l f = some (l.drop 2) := by unfold skipP; rw [if_pos ⟨by omega, by omega, by omega⟩]
        refine VReq.mk hnc ?_
        refine VCut.by_ 2 n rfl rfl (by omega) (by omega) ?_
        intro A5 hA5
        have hcut := Sl.cut8 hs (l := 2) (h := n) (by omega) (Nat.le_refl _) hnc hA5
        rw [List.take_of_length_le (by omega)] at hcut
        (conv => whnf)
        refine VLoads.blk hb rfl ?_
        (conv => whnf)
        refine (field_ok w1 (l := l.drop 2) f (hcut.keepNo kp) (by omega) (by omega)).mono ?_
        rintro v w2 ⟨⟨A2, n2, c2, E, rfl, hs2, hnc2, hE⟩, hk2⟩
        have kp := kp.keepNo hk2
        have hlf := fieldP_len (l.drop 2) f
        have hl2 : (fieldP (l.drop 2) f).2.1.length = n2 := by simpa using hs2.len
        rcases hE with ⟨rfl, he0⟩ | ⟨b, rfl, hcb, hne, hbb⟩
        · (conv => whnf)
          refine VCmp.mk (fun h9 => ?_) (fun h9 => ?_) <;> (conv => whnf)
          · refine (fault_ok w2 3 (by decide)).mono ?_
            rintro v w3 ⟨hv, _, hk3⟩
            (conv => whnf)
            have e : decF l f = (0, [], 3) := by unfold decF; rw [hsk]; dsimp only; rw [if_pos ⟨he0, by omega⟩]
            rw [e]
            refine ⟨⟨none, 0, v, rfl, Own.nil _ _ _ _, ?_⟩, kp.trans hk3⟩
            rcases hv with h | ⟨b, h1, h2, h3, h4⟩
            · exact .inl h
            · exact .inr ⟨b, h1, h2, h3, by have := kp.size; omega⟩
          · refine app8 (w0 := w) kp (xs := []) (Own.nil _ _ _ _) hs2 (by omega) ?_
            intro A3 c3 w3 ho3 hk3 _ _
            (conv => whnf)
            have e : decF l f = fieldP (l.drop 2) f := by unfold decF; rw [hsk]; dsimp only; rw [if_neg (fun h => by omega)]
            rw [e]
            rw [Nat.zero_add, List.nil_append, ← hl2] at ho3
            exact ⟨⟨A3, c3, .nilIface, by rw [hl2, Nat.zero_add]; rfl, ho3, .inl ⟨rfl, he0⟩⟩, hk3⟩
        · (conv => whnf)
          have e : decF l f = fieldP (l.drop 2) f := by unfold decF; rw [hsk]; dsimp only; rw [if_neg (fun h => hne h.1)]
          rw [e, fieldP_bad (l.drop 2) f hne]
          exact ⟨⟨none, 0, _, rfl, Own.nil _ _ _ _, .inr ⟨b, rfl, hcb, hne, by omega⟩⟩, kp⟩
      · have hsk : skipP l f = if f.acfc then some l else none := by unfold skipP; rw [if_neg (fun h => by omega)]
        refine VLoad.by_ ((hb).cell 0) ?_; (conv => whnf)
        cases hac : f.acfc with
        | false =>
          (conv => whnf)
          rw [hac] at hsk
          refine (fault_ok w1 4 (by decide)).mono ?_
          rintro v w3 ⟨hv, _, hk3⟩
          (conv => whnf)
          have e : decF l f = (0, [], 4) := by unfold decF; rw [hsk]; rfl
          rw [e]
          refine ⟨⟨none, 0, v, rfl, Own.nil _ _ _ _, ?_⟩, kp.trans hk3⟩
          rcases hv with h | ⟨b, h1, h2, h3, h4⟩
          · exact .inl h
          · exact .inr ⟨b, h1, h2, h3, by have := kp.size; omega⟩
        | true =>
          rw [hac, if_pos rfl] at hsk
          (conv => whnf)
          refine VLoads.blk hb rfl ?_
          (conv => whnf)
          refine (field_ok w1 (l := l) f (hs.keepNo kp) (by omega) hnc).mono ?_
          rintro v w2 ⟨⟨A2, n2, c2, E, rfl, hs2, hnc2, hE⟩, hk2⟩
          have kp := kp.keepNo hk2
          have hlf := fieldP_len (l) f
          have hl2 : (fieldP (l) f).2.1.length = n2 := by simpa using hs2.len
          rcases hE with ⟨rfl, he0⟩ | ⟨b, rfl, hcb, hne, hbb⟩
          · (conv => whnf)
            refine VCmp.mk (fun h9 => ?_) (fun h9 => ?_) <;> (conv => whnf)
            · refine (fault_ok w2 3 (by decide)).mono ?_
              rintro v w3 ⟨hv, _, hk3⟩
              (conv => whnf)
              have e : decF l f = (0, [], 3) := by unfold decF; rw [hsk]; dsimp only; rw [if_pos ⟨he0, by omega⟩]
              rw [e]
              refine ⟨⟨none, 0, v, rfl, Own.nil _ _ _ _, ?_⟩, kp.trans hk3⟩
              rcases hv with h | ⟨b, h1, h2, h3, h4⟩
              · exact .inl h
              · exact .inr ⟨b, h1, h2, h3, by have := kp.size; omega⟩
            · refine app8 (w0 := w) kp (xs := []) (Own.nil _ _ _ _) hs2 (by omega) ?_
              intro A3 c3 w3 ho3 hk3 _ _
              (conv => whnf)
              have e : decF l f = fieldP (l) f := by unfold decF; rw [hsk]; dsimp only; rw [if_neg (fun h => by omega)]
              rw [e]
              rw [Nat.zero_add, List.nil_append, ← hl2] at ho3
              exact ⟨⟨A3, c3, .nilIface, by rw [hl2, Nat.zero_add]; rfl, ho3, .inl ⟨rfl, he0⟩⟩, hk3⟩
          · (conv => whnf)
            have e : decF l f = fieldP (l) f := by unfold decF; rw [hsk]; dsimp only; rw [if_neg (fun h => hne h.1)]
            rw [e, fieldP_bad (l) f hne]
            exact ⟨⟨none, 0, _, rfl, Own.nil _ _ _ _, .inr ⟨b, rfl, hcb, hne, by omega⟩⟩, kp⟩
    · have hsk : skipP l f = if f.acfc then some l else none := by unfold skipP; rw [if_neg (fun h => by omega)]
      refine VLoad.by_ ((hb).cell 0) ?_; (conv => whnf)
      cases hac : f.acfc with
      | false =>
        (conv => whnf)
        rw [hac] at hsk
        refine (fault_ok w1 4 (by decide)).mono ?_
        rintro v w3 ⟨hv, _, hk3⟩
        (conv => whnf)
        have e : decF l f = (0, [], 4) := by unfold decF; rw [hsk]; rfl
        rw [e]
        refine ⟨⟨none, 0, v, rfl, Own.nil _ _ _ _, ?_⟩, kp.trans hk3⟩
        rcases hv with h | ⟨b, h1, h2, h3, h4⟩
        · exact .inl h
        · exact .inr ⟨b, h1, h2, h3, by have := kp.size; omega⟩
      | true =>
        rw [hac, if_pos rfl] at hsk
        (conv => whnf)
        refine VLoads.blk hb rfl ?_
        (conv => whnf)
        refine (field_ok w1 (l := l) f (hs.keepNo kp) (by omega) hnc).mono ?_
        rintro v w2 ⟨⟨A2, n2, c2, E, rfl, hs2, hnc2, hE⟩, hk2⟩
        have kp := kp.keepNo hk2
        have hlf := fieldP_len (l) f
        have hl2 : (fieldP (l) f).2.1.length = n2 := by simpa using hs2.len
        rcases hE with ⟨rfl, he0⟩ | ⟨b, rfl, hcb, hne, hbb⟩
        · (conv => whnf)
          refine VCmp.mk (fun h9 => ?_) (fun h9 => ?_) <;> (conv => whnf)
          · refine (fault_ok w2 3 (by decide)).mono ?_
            rintro v w3 ⟨hv, _, hk3⟩
            (conv => whnf)
            have e : decF l f = (0, [], 3) := by unfold decF; rw [hsk]; dsimp only; rw [if_pos ⟨he0, by omega⟩]
            rw [e]
            refine ⟨⟨none, 0, v, rfl, Own.nil _ _ _ _, ?_⟩, kp.trans hk3⟩
            rcases hv with h | ⟨b, h1, h2, h3, h4⟩
            · exact .inl h
            · exact .inr ⟨b, h1, h2, h3, by have := kp.size; omega⟩
          · refine app8 (w0 := w) kp (xs := []) (Own.nil _ _ _ _) hs2 (by omega) ?_
            intro A3 c3 w3 ho3 hk3 _ _
            (conv => whnf)
            have e : decF l f = fieldP (l) f := by unfold decF; rw [hsk]; dsimp only; rw [if_neg (fun h => by omega)]
            rw [e]
            rw [Nat.zero_add, List.nil_append, ← hl2] at ho3
            exact ⟨⟨A3, c3, .nilIface, by rw [hl2, Nat.zero_add]; rfl, ho3, .inl ⟨rfl, he0⟩⟩, hk3⟩
        · (conv => whnf)
          have e : decF l f = fieldP (l) f := by unfold decF; rw [hsk]; dsimp only; rw [if_neg (fun h => hne h.1)]
          rw [e, fieldP_bad (l) f hne]
          exact ⟨⟨none, 0, _, rfl, Own.nil _ _ _ _, .inr ⟨b, rfl, hcb, hne, by omega⟩⟩, kp⟩
  · have hsk : skipP l f = if f.acfc then some l else none := by unfold skipP; rw [if_neg (fun h => by omega)]
    refine VLoad.by_ ((hb).cell 0) ?_; (conv => whnf)
    cases hac : f.acfc with
    | false =>
      (conv => whnf)
      rw [hac] at hsk
      refine (fault_ok w1 4 (by decide)).mono ?_
      rintro v w3 ⟨hv, _, hk3⟩
      (conv => whnf)
      have e : decF l f = (0, [], 4) := by unfold decF; rw [hsk]; rfl
      rw [e]
      refine ⟨⟨none, 0, v, rfl, Own.nil _ _ _ _, ?_⟩, kp.trans hk3⟩
      rcases hv with h | ⟨b, h1, h2, h3, h4⟩
      · exact .inl h
      · exact .inr ⟨b, h1, h2, h3, by have := kp.size; omega⟩
    | true =>
      rw [hac, if_pos rfl] at hsk
      (conv => whnf)
      refine VLoads.blk hb rfl ?_
      (conv => whnf)
      refine (field_ok w1 (l := l) f (hs.keepNo kp) (by omega) hnc).mono ?_
      rintro v w2 ⟨⟨A2, n2, c2, E, rfl, hs2, hnc2, hE⟩, hk2⟩
      have kp := kp.keepNo hk2
      have hlf := fieldP_len (l) f
      have hl2 : (fieldP (l) f).2.1.length = n2 := by simpa using hs2.len
      rcases hE with ⟨rfl, he0⟩ | ⟨b, rfl, hcb, hne, hbb⟩
      · (conv => whnf)
        refine VCmp.mk (fun h9 => ?_) (fun h9 => ?_) <;> (conv => whnf)
        · refine (fault_ok w2 3 (by decide)).mono ?_
          rintro v w3 ⟨hv, _, hk3⟩
          (conv => whnf)
          have e : decF l f = (0, [], 3) := by unfold decF; rw [hsk]; dsimp only; rw [if_pos ⟨he0, by omega⟩]
          rw [e]
          refine ⟨⟨none, 0, v, rfl, Own.nil _ _ _ _, ?_⟩, kp.trans hk3⟩
          rcases hv with h | ⟨b, h1, h2, h3, h4⟩
          · exact .inl h
          · exact .inr ⟨b, h1, h2, h3, by have := kp.size; omega⟩
        · refine app8 (w0 := w) kp (xs := []) (Own.nil _ _ _ _) hs2 (by omega) ?_
          intro A3 c3 w3 ho3 hk3 _ _
          (conv => whnf)
          have e : decF l f = fieldP (l) f := by unfold decF; rw [hsk]; dsimp only; rw [if_neg (fun h => by omega)]
          rw [e]
          rw [Nat.zero_add, List.nil_append, ← hl2] at ho3
          exact ⟨⟨A3, c3, .nilIface, by rw [hl2, Nat.zero_add]; rfl, ho3, .inl ⟨rfl, he0⟩⟩, hk3⟩
      · (conv => whnf)
        have e : decF l f = fieldP (l) f := by unfold decF; rw [hsk]; dsimp only; rw [if_neg (fun h => hne h.1)]
        rw [e, fieldP_bad (l) f hne]
        exact ⟨⟨none, 0, _, rfl, Own.nil _ _ _ _, .inr ⟨b, rfl, hcb, hne, by omega⟩⟩, kp⟩

/-- What Decode tells. -/
def DecV (w : World) (base : Nat) (v : Value) (r : Int × List UInt8 × Int) : Prop := ∃ A c, v = .tuple #[.int .i64 r.1, .slice A r.2.1.length c, .int .i64 r.2.2] ∧ Own w base T8 1 A r.2.1.length c (r.2.1.map vb)

theorem decF_bad (l : List UInt8) (f : Fo) (h : (decF l f).2.2 ≠ 0) : decF l f = (0, [], (decF l f).2.2) := by
  unfold decF at h ⊢
  split
  · rfl
  · split
    · rfl
    · rename_i r hr h1
      rw [hr] at h
      dsimp only at h
      rw [if_neg h1] at h
      exact fieldP_bad r f h

theorem decode_ok (w : World) {A : Option Addr} {n c : Nat} {l : List UInt8} (f : Fo) (hs : Sl w 1 A n (l.map vb)) (hn : n ≤ 1000000) (hnc : n ≤ c) (hg : EtOk w) :
    VC Tryd.prog 34 [.slice A n c, f.v] w (fun v w' => DecV w' w.heap.size v (decF l f) ∧ Keep No w w') := by
  unfold Fo.v
  refine VC.of tt_ok Tryd.func34 rfl (by decide +kernel) (Nat.le_of_ble_eq_true rfl) ?_; (conv => whnf)
  refine ⟨fun w1 hb kp => ?_⟩; have hb_lt := Blk.lt hb; have kp_sz := kp.size; (conv => whnf)
  refine VLoads.blk hb rfl ?_
  (conv => whnf)
  refine (read_ok w1 f (hs.keepNo kp) hn hnc).mono ?_
  rintro v w2 ⟨⟨A2, c2, E, rfl, ho2, hE⟩, hk2⟩
  have kp := kp.keepNo hk2
  have hE0 := hE
  rcases hE0 with ⟨rfl, he0⟩ | ⟨b, rfl, hcb, hne, hbb⟩
  · (conv => whnf)
    refine ⟨⟨A2, c2, ?_, ho2.mono (by omega)⟩, kp⟩
    rw [he0]; rfl
  · (conv => whnf)
    refine (number_ok w2 hE (hg.keepNo kp)).mono ?_
    rintro v w3 ⟨rfl, hk3⟩
    (conv => whnf)
    have e := decF_bad l f hne
    generalize (decF l f).2.2 = k at *
    rw [e]
    exact ⟨⟨none, 0, rfl, Own.nil _ _ _ _⟩, kp.trans hk3⟩

theorem refDecode_ok (w : World) {A : Option Addr} {n c : Nat} {l : List UInt8} (f : Fo) (hs : Sl w 1 A n (l.map vb)) (hn : n ≤ 1000000) (hnc : n ≤ c) :
    VC Tryd.prog 38 [.slice A n c, f.v] w (fun v w' => DecV w' w.heap.size v (decF l f) ∧ Keep No w w') := by
  have hl : l.length = n := by simpa using hs.len
  unfold Fo.v
  refine VC.of tt_ok Tryd.func38 rfl (by decide +kernel) (Nat.le_of_ble_eq_true rfl) ?_; (conv => whnf)
  refine ⟨fun w1 hb kp => ?_⟩; have hb_lt := Blk.lt hb; have kp_sz := kp.size; (conv => whnf)
  have b0 := (l.getD 0 0).toNat_lt
  have b1 := (l.getD 1 0).toNat_lt
  refine VCmp.mk (fun h => ?_) (fun h => ?_) <;> (conv => whnf)
  · refine VIdx.sl (hs.keepNo kp) (0) (by first | rfl | omega) (by omega) (fun b_ o_ hA_ hc_ => ?_); (conv => whnf); refine VLoad.by_ hc_ ?_; (conv => whnf)
    refine VCmp.mk (fun h1 => ?_) (fun h1 => ?_) <;> (conv => whnf)
    · refine VIdx.sl (hs.keepNo kp) (1) (by first | rfl | omega) (by omega) (fun b_ o_ hA_ hc_ => ?_); (conv => whnf); refine VLoad.by_ hc_ ?_; (conv => whnf)
      refine VCmp.mk (fun h2 => ?_) (fun h2 => ?_) <;> (conv => whnf)
      · have hsk : skipP l f = some (l.drop 2) := by unfold skipP; rw [if_pos ⟨by omega, by omega, by omega⟩]
        refine VReq.mk hnc ?_
        refine VCut.by_ 2 n rfl rfl (by omega) (by omega) ?_
        intro A5 hA5
        have hcut := Sl.cut8 hs (l := 2) (h := n) (by omega) (Nat.le_refl _) hnc hA5
        rw [List.take_of_length_le (by omega)] at hcut
        (conv => whnf)
        obtain ⟨rr, hrr⟩ : ∃ rr, rr = l.drop 2 := ⟨_, rfl⟩
        have hr := hcut
        rw [← hrr] at hr
        have hsk : skipP l f = some rr := by rw [hsk, hrr]
        have hlr : rr.length = n - 2 := by simpa using hr.len
        have c0 := (rr.getD 0 0).toNat_lt
        have c1 := (rr.getD 1 0).toNat_lt
        refine VCmp.mk (fun g0 => ?_) (fun g0 => ?_) <;> (conv => whnf)
        · skip
          have ef : fieldP rr f = (0, [], 2) := by unfold fieldP; rw [if_pos (by omega)]
          have e : decF l f = (0, [], 2) := by unfold decF; rw [hsk]; dsimp only; rw [ef]; rfl
          rw [e]
          exact ⟨⟨none, 0, rfl, Own.nil _ _ _ _⟩, kp⟩
        refine VIdx.sl (hr.keepNo kp) (0) (by first | rfl | omega) (by omega) (fun b_ o_ hA_ hc_ => ?_); (conv => whnf); refine VLoad.by_ hc_ ?_; (conv => whnf)
        refine VRes.i64 (by omega) ?_; (conv => whnf)
        refine VIdx.sl (hr.keepNo kp) (0) (by first | rfl | omega) (by omega) (fun b_ o_ hA_ hc_ => ?_); (conv => whnf); refine VLoad.by_ hc_ ?_; (conv => whnf)
        refine VRes.odd8 rfl rfl ?_
        (conv => whnf)
        refine VCmp.mk (fun g1 => ?_) (fun g1 => ?_) <;> (conv => whnf)
        · refine VLoad.by_ ((hb).cell 1) ?_; (conv => whnf)
          cases hq : f.pfc with
          | false =>
            (conv => whnf)
            have ef : fieldP rr f = (0, [], 4) := by unfold fieldP; rw [if_neg (by omega), if_pos ⟨by omega, hq⟩]
            have e : decF l f = (0, [], 4) := by unfold decF; rw [hsk]; dsimp only; rw [ef]; rfl
            rw [e]
            exact ⟨⟨none, 0, rfl, Own.nil _ _ _ _⟩, kp⟩
          | true =>
            (conv => whnf)
            have ef : fieldP rr f = ((((rr.getD 0 0).toNat : Nat) : Int), rr.drop 1, 0) := by unfold fieldP; rw [if_neg (by omega), if_neg (by rw [hq]; simp), if_pos (by omega)]
            refine VRes.i64 (by omega) ?_; (conv => whnf)
            refine VCmp.mk (fun h9 => ?_) (fun h9 => ?_) <;> (conv => whnf)
            · have e : decF l f = (0, [], 3) := by
                unfold decF; rw [hsk]; dsimp only; rw [ef]; rw [if_pos ⟨rfl, by show 1516 < (List.drop 1 _).length; rw [List.length_drop]; omega⟩]
              rw [e]
              exact ⟨⟨none, 0, rfl, Own.nil _ _ _ _⟩, kp⟩
            · refine VReq.mk (by omega) ?_
              refine VCut.by_ 1 (n - 2) rfl rfl (by omega) (by omega) ?_
              intro A7 hA7
              have hcut7 := Sl.cut8 hr (l := 1) (h := n - 2) (by omega) (Nat.le_refl _) (by omega) hA7
              rw [List.take_of_length_le (by omega)] at hcut7
              (conv => whnf)
              refine (copy_ok w1 (hcut7.keepNo kp) (by omega)).mono ?_
              rintro v w3 ⟨A8, c8, rfl, ho8, hk8⟩
              (conv => whnf)
              have e : decF l f = ((((rr.getD 0 0).toNat : Nat) : Int), rr.drop 1, 0) := by
                unfold decF; rw [hsk]; dsimp only; rw [ef]; rw [if_neg (fun h => by have h := h.2; change 1516 < (List.drop 1 _).length at h; rw [List.length_drop] at h; omega)]
              rw [e]
              have hl8 : (rr.drop 1).length = n - 2 - 1 := by rw [List.length_drop]; omega
              rw [← hl8] at ho8
              exact ⟨⟨A8, c8, by rw [hl8]; rfl, ho8.mono (by omega)⟩, kp.trans hk8⟩
        · refine VCmp.mk (fun g2 => ?_) (fun g2 => ?_) <;> (conv => whnf)
          · skip
            have ef : fieldP rr f = (0, [], 2) := by unfold fieldP; rw [if_neg (by omega), if_neg (fun h => by omega), if_neg (by omega), if_pos (by omega)]
            have e : decF l f = (0, [], 2) := by unfold decF; rw [hsk]; dsimp only; rw [ef]; rfl
            rw [e]
            exact ⟨⟨none, 0, rfl, Own.nil _ _ _ _⟩, kp⟩
          refine VIdx.sl (hr.keepNo kp) (1) (by first | rfl | omega) (by omega) (fun b_ o_ hA_ hc_ => ?_); (conv => whnf); refine VLoad.by_ hc_ ?_; (conv => whnf)
          refine VRes.odd8 rfl rfl ?_
          (conv => whnf)
          refine VCmp.mk (fun g3 => ?_) (fun g3 => ?_) <;> (conv => whnf)
          · skip
            have ef : fieldP rr f = (0, [], 4) := by unfold fieldP; rw [if_neg (by omega), if_neg (fun h => by omega), if_neg (by omega), if_neg (by omega), if_pos (by omega)]
            have e : decF l f = (0, [], 4) := by unfold decF; rw [hsk]; dsimp only; rw [ef]; rfl
            rw [e]
            exact ⟨⟨none, 0, rfl, Own.nil _ _ _ _⟩, kp⟩
          refine VReq.mk (by omega) ?_
          refine VRes.shl8 rfl rfl ?_
          (conv => whnf)
          refine VIdx.sl (hr.keepNo kp) (1) (by first | rfl | omega) (by omega) (fun b_ o_ hA_ hc_ => ?_); (conv => whnf); refine VLoad.by_ hc_ ?_; (conv => whnf)
          refine VRes.i64 (by omega) ?_; (conv => whnf)
          refine VRes.or2 rfl rfl ?_
          (conv => whnf)
          have ef : fieldP rr f = (((two (rr.getD 0 0) (rr.getD 1 0) : Nat) : Int), rr.drop 2, 0) := by unfold fieldP; rw [if_neg (by omega), if_neg (fun h => by omega), if_neg (by omega), if_neg (by omega), if_neg (by omega)]
          refine VRes.i64 (by omega) ?_; (conv => whnf)
          refine VCmp.mk (fun h9 => ?_) (fun h9 => ?_) <;> (conv => whnf)
          · have e : decF l f = (0, [], 3) := by
              unfold decF; rw [hsk]; dsimp only; rw [ef]; rw [if_pos ⟨rfl, by show 1516 < (List.drop 2 _).length; rw [List.length_drop]; omega⟩]
            rw [e]
            exact ⟨⟨none, 0, rfl, Own.nil _ _ _ _⟩, kp⟩
          · refine VReq.mk (by omega) ?_
            refine VCut.by_ 2 (n - 2) rfl rfl (by omega) (by omega) ?_
            intro A7 hA7
            have hcut7 := Sl.cut8 hr (l := 2) (h := n - 2) (by omega) (Nat.le_refl _) (by omega) hA7
            rw [List.take_of_length_le (by omega)] at hcut7
            (conv => whnf)
            refine (copy_ok w1 (hcut7.keepNo kp) (by omega)).mono ?_
            rintro v w3 ⟨A8, c8, rfl, ho8, hk8⟩
            (conv => whnf)
            have e : decF l f = (((two (rr.getD 0 0) (rr.getD 1 0) : Nat) : Int), rr.drop 2, 0) := by
              unfold decF; rw [hsk]; dsimp only; rw [ef]; rw [if_neg (fun h => by have h := h.2; change 1516 < (List.drop 2 _).length at h; rw [List.length_drop] at h; omega)]
            rw [e]
            have hl8 : (rr.drop 2).length = n - 2 - 2 := by rw [List.length_drop]; omega
            rw [← hl8] at ho8
            exact ⟨⟨A8, c8, by rw [hl8]; rfl, ho8.mono (by omega)⟩, kp.trans hk8⟩
      · have hsk : skipP l f = if f.acfc then some l else none := by unfold skipP; rw [if_neg (fun h => by omega)]
        refine VLoad.by_ ((hb).cell 0) ?_; (conv => whnf)
        cases hac : f.acfc with
        | false =>
          (conv => whnf)
          rw [hac] at hsk
          have e : decF l f = (0, [], 4) := by unfold decF; rw [hsk]; rfl
          rw [e]
          exact ⟨⟨none, 0, rfl, Own.nil _ _ _ _⟩, kp⟩
        | true =>
          rw [hac, if_pos rfl] at hsk
          (conv => whnf)
          obtain ⟨rr, hrr⟩ : ∃ rr, rr = l := ⟨_, rfl⟩
          have hr := hs
          rw [← hrr] at hr
          have hsk : skipP l f = some rr := by rw [hsk, hrr]
          have hlr : rr.length = n := by simpa using hr.len
          have c0 := (rr.getD 0 0).toNat_lt
          have c1 := (rr.getD 1 0).toNat_lt
          refine VCmp.mk (fun g0 => ?_) (fun g0 => ?_) <;> (conv => whnf)
          · skip
            have ef : fieldP rr f = (0, [], 2) := by unfold fieldP; rw [if_pos (by omega)]
            have e : decF l f = (0, [], 2) := by unfold decF; rw [hsk]; dsimp only; rw [ef]; rfl
            rw [e]
            exact ⟨⟨none, 0, rfl, Own.nil _ _ _ _⟩, kp⟩
          refine VIdx.sl (hr.keepNo kp) (0) (by first | rfl | omega) (by omega) (fun b_ o_ hA_ hc_ => ?_); (conv => whnf); refine VLoad.by_ hc_ ?_; (conv => whnf)
          refine VRes.i64 (by omega) ?_; (conv => whnf)
          refine VIdx.sl (hr.keepNo kp) (0) (by first | rfl | omega) (by omega) (fun b_ o_ hA_ hc_ => ?_); (conv => whnf); refine VLoad.by_ hc_ ?_; (conv => whnf)
          refine VRes.odd8 rfl rfl ?_
          (conv => whnf)
          refine VCmp.mk (fun g1 => ?_) (fun g1 => ?_) <;> (conv => whnf)
          · refine VLoad.by_ ((hb).cell 1) ?_; (conv => whnf)
            cases hq : f.pfc with
            | false =>
              (conv => whnf)
              have ef : fieldP rr f = (0, [], 4) := by unfold fieldP; rw [if_neg (by omega), if_pos ⟨by omega, hq⟩]
              have e : decF l f = (0, [], 4) := by unfold decF; rw [hsk]; dsimp only; rw [ef]; rfl
              rw [e]
              exact ⟨⟨none, 0, rfl, Own.nil _ _ _ _⟩, kp⟩
            | true =>
              (conv => whnf)
              have ef : fieldP rr f = ((((rr.getD 0 0).toNat : Nat) : Int), rr.drop 1, 0) := by unfold fieldP; rw [if_neg (by omega), if_neg (by rw [hq]; simp), if_pos (by omega)]
              refine VRes.i64 (by omega) ?_; (conv => whnf)
              refine VCmp.mk (fun h9 => ?_) (fun h9 => ?_) <;> (conv => whnf)
              · have e : decF l f = (0, [], 3) := by
                  unfold decF; rw [hsk]; dsimp only; rw [ef]; rw [if_pos ⟨rfl, by show 1516 < (List.drop 1 _).length; rw [List.length_drop]; omega⟩]
                rw [e]
                exact ⟨⟨none, 0, rfl, Own.nil _ _ _ _⟩, kp⟩
              · refine VReq.mk hnc ?_
                refine VCut.by_ 1 (n) rfl rfl (by omega) (by omega) ?_
                intro A7 hA7
                have hcut7 := Sl.cut8 hr (l := 1) (h := n) (by omega) (Nat.le_refl _) hnc hA7
                rw [List.take_of_length_le (by omega)] at hcut7
                (conv => whnf)
                refine (copy_ok w1 (hcut7.keepNo kp) (by omega)).mono ?_
                rintro v w3 ⟨A8, c8, rfl, ho8, hk8⟩
                (conv => whnf)
                have e : decF l f = ((((rr.getD 0 0).toNat : Nat) : Int), rr.drop 1, 0) := by
                  unfold decF; rw [hsk]; dsimp only; rw [ef]; rw [if_neg (fun h => by have h := h.2; change 1516 < (List.drop 1 _).length at h; rw [List.length_drop] at h; omega)]
                rw [e]
                have hl8 : (rr.drop 1).length = n - 1 := by rw [List.length_drop]; omega
                rw [← hl8] at ho8
                exact ⟨⟨A8, c8, by rw [hl8]; rfl, ho8.mono (by omega)⟩, kp.trans hk8⟩
          · refine VCmp.mk (fun g2 => ?_) (fun g2 => ?_) <;> (conv => whnf)
            · skip
              have ef : fieldP rr f = (0, [], 2) := by unfold fieldP; rw [if_neg (by omega), if_neg (fun h => by omega), if_neg (by omega), if_pos (by omega)]
              have e : decF l f = (0, [], 2) := by unfold decF; rw [hsk]; dsimp only; rw [ef]; rfl
              rw [e]
              exact ⟨⟨none, 0, rfl, Own.nil _ _ _ _⟩, kp⟩
            refine VIdx.sl (hr.keepNo kp) (1) (by first | rfl | omega) (by omega) (fun b_ o_ hA_ hc_ => ?_); (conv => whnf); refine VLoad.by_ hc_ ?_; (conv => whnf)
            refine VRes.odd8 rfl rfl ?_
            (conv => whnf)
            refine VCmp.mk (fun g3 => ?_) (fun g3 => ?_) <;> (conv => whnf)
            · skip
              have ef : fieldP rr f = (0, [], 4) := by unfold fieldP; rw [if_neg (by omega), if_neg (fun h => by omega), if_neg (by omega), if_neg (by omega), if_pos (by omega)]
              have e : decF l f = (0, [], 4) := by unfold decF; rw [hsk]; dsimp only; rw [ef]; rfl
              rw [e]
              exact ⟨⟨none, 0, rfl, Own.nil _ _ _ _⟩, kp⟩
            refine VReq.mk (by omega) ?_
            refine VRes.shl8 rfl rfl ?_
            (conv => whnf)
            refine VIdx.sl (hr.keepNo kp) (1) (by first | rfl | omega) (by omega) (fun b_ o_ hA_ hc_ => ?_); (conv => whnf); refine VLoad.by_ hc_ ?_; (conv => whnf)
            refine VRes.i64 (by omega) ?_; (conv => whnf)
            refine VRes.or2 rfl rfl ?_
            (conv => whnf)
            have ef : fieldP rr f = (((two (rr.getD 0 0) (rr.getD 1 0) : Nat) : Int), rr.drop 2, 0) := by unfold fieldP; rw [if_neg (by omega), if_neg (fun h => by omega), if_neg (by omega), if_neg (by omega), if_neg (by omega)]
            refine VRes.i64 (by omega) ?_; (conv => whnf)
            refine VCmp.mk (fun h9 => ?_) (fun h9 => ?_) <;> (conv => whnf)
            · have e : decF l f = (0, [], 3) := by
                unfold decF; rw [hsk]; dsimp only; rw [ef]; rw [if_pos ⟨rfl, by show 1516 < (List.drop 2 _).length; rw [List.length_drop]; omega⟩]
              rw [e]
              exact ⟨⟨none, 0, rfl, Own.nil _ _ _ _⟩, kp⟩
            · refine VReq.mk hnc ?_
              refine VCut.by_ 2 (n) rfl rfl (by omega) (by omega) ?_
              intro A7 hA7
              have hcut7 := Sl.cut8 hr (l := 2) (h := n) (by omega) (Nat.le_refl _) hnc hA7
              rw [List.take_of_length_le (by omega)] at hcut7
              (conv => whnf)
              refine (copy_ok w1 (hcut7.keepNo kp) (by omega)).mono ?_
              rintro v w3 ⟨A8, c8, rfl, ho8, hk8⟩
              (conv => whnf)
              have e : decF l f = (((two (rr.getD 0 0) (rr.getD 1 0) : Nat) : Int), rr.drop 2, 0) := by
                unfold decF; rw [hsk]; dsimp only; rw [ef]; rw [if_neg (fun h => by have h := h.2; change 1516 < (List.drop 2 _).length at h; rw [List.length_drop] at h; omega)]
              rw [e]
              have hl8 : (rr.drop 2).length = n - 2 := by rw [List.length_drop]; omega
              rw [← hl8] at ho8
              exact ⟨⟨A8, c8, by rw [hl8]; rfl, ho8.mono (by omega)⟩, kp.trans hk8⟩
    · have hsk : skipP l f = if f.acfc then some l else none := by unfold skipP; rw [if_neg (fun h => by omega)]
      refine VLoad.by_ ((hb).cell 0) ?_; (conv => whnf)
      cases hac : f.acfc with
      | false =>
        (conv => whnf)
        rw [hac] at hsk
        have e : decF l f = (0, [], 4) := by unfold decF; rw [hsk]; rfl
        rw [e]
        exact ⟨⟨none, 0, rfl, Own.nil _ _ _ _⟩, kp⟩
      | true =>
        rw [hac, if_pos rfl] at hsk
        (conv => whnf)
        obtain ⟨rr, hrr⟩ : ∃ rr, rr = l := ⟨_, rfl⟩
        have hr := hs
        rw [← hrr] at hr
        have hsk : skipP l f = some rr := by rw [hsk, hrr]
        have hlr : rr.length = n := by simpa using hr.len
        have c0 := (rr.getD 0 0).toNat_lt
        have c1 := (rr.getD 1 0).toNat_lt
        refine VCmp.mk (fun g0 => ?_) (fun g0 => ?_) <;> (conv => whnf)
        · skip
          have ef : fieldP rr f = (0, [], 2) := by unfold fieldP; rw [if_pos (by omega)]
          have e : decF l f = (0, [], 2) := by unfold decF; rw [hsk]; dsimp only; rw [ef]; rfl
          rw [e]
          exact ⟨⟨none, 0, rfl, Own.nil _ _ _ _⟩, kp⟩
        refine VIdx.sl (hr.keepNo kp) (0) (by first | rfl | omega) (by omega) (fun b_ o_ hA_ hc_ => ?_); (conv => whnf); refine VLoad.by_ hc_ ?_; (conv => whnf)
        refine VRes.i64 (by omega) ?_; (conv => whnf)
        refine VIdx.sl (hr.keepNo kp) (0) (by first | rfl | omega) (by omega) (fun b_ o_ hA_ hc_ => ?_); (conv => whnf); refine VLoad.by_ hc_ ?_; (conv => whnf)
        refine VRes.odd8 rfl rfl ?_
        (conv => whnf)
        refine VCmp.mk (fun g1 => ?_) (fun g1 => ?_) <;> (conv => whnf)
        · refine VLoad.by_ ((hb).cell 1) ?_; (conv => whnf)
          cases hq : f.pfc with
          | false =>
            (conv => whnf)
            have ef : fieldP rr f = (0, [], 4) := by unfold fieldP; rw [if_neg (by omega), if_pos ⟨by omega, hq⟩]
            have e : decF l f = (0, [], 4) := by unfold decF; rw [hsk]; dsimp only; rw [ef]; rfl
            rw [e]
            exact ⟨⟨none, 0, rfl, Own.nil _ _ _ _⟩, kp⟩
          | true =>
            (conv => whnf)
            have ef : fieldP rr f = ((((rr.getD 0 0).toNat : Nat) : Int), rr.drop 1, 0) := by unfold fieldP; rw [if_neg (by omega), if_neg (by rw [hq]; simp), if_pos (by omega)]
            refine VRes.i64 (by omega) ?_; (conv => whnf)
            refine VCmp.mk (fun h9 => ?_) (fun h9 => ?_) <;> (conv => whnf)
            · have e : decF l f = (0, [], 3) := by
                unfold decF; rw [hsk]; dsimp only; rw [ef]; rw [if_pos ⟨rfl, by show 1516 < (List.drop 1 _).length; rw [List.length_drop]; omega⟩]
              rw [e]
              exact ⟨⟨none, 0, rfl, Own.nil _ _ _ _⟩, kp⟩
            · refine VReq.mk hnc ?_
              refine VCut.by_ 1 (n) rfl rfl (by omega) (by omega) ?_
              intro A7 hA7
              have hcut7 := Sl.cut8 hr (l := 1) (h := n) (by omega) (Nat.le_refl _) hnc hA7
              rw [List.take_of_length_le (by omega)] at hcut7
              (conv => whnf)
              refine (copy_ok w1 (hcut7.keepNo kp) (by omega)).mono ?_
              rintro v w3 ⟨A8, c8, rfl, ho8, hk8⟩
              (conv => whnf)
              have e : decF l f = ((((rr.getD 0 0).toNat : Nat) : Int), rr.drop 1, 0) := by
                unfold decF; rw [hsk]; dsimp only; rw [ef]; rw [if_neg (fun h => by have h := h.2; change 1516 < (List.drop 1 _).length at h; rw [List.length_drop] at h; omega)]
              rw [e]
              have hl8 : (rr.drop 1).length = n - 1 := by rw [List.length_drop]; omega
              rw [← hl8] at ho8
              exact ⟨⟨A8, c8, by rw [hl8]; rfl, ho8.mono (by omega)⟩, kp.trans hk8⟩
        · refine VCmp.mk (fun g2 => ?_) (fun g2 => ?_) <;> (conv => whnf)
          · skip
            have ef : fieldP rr f = (0, [], 2) := by unfold fieldP; rw [if_neg (by omega), if_neg (fun h => by omega), if_neg (by omega), if_pos (by omega)]
            have e : decF l f = (0, [], 2) := by unfold decF; rw [hsk]; dsimp only; rw [ef]; rfl
            rw [e]
            exact ⟨⟨none, 0, rfl, Own.nil _ _ _ _⟩, kp⟩
          refine VIdx.sl (hr.keepNo kp) (1) (by first | rfl | omega) (by omega) (fun b_ o_ hA_ hc_ => ?_); (conv => whnf); refine VLoad.by_ hc_ ?_; (conv => whnf)
          refine VRes.odd8 rfl rfl ?_
          (conv => whnf)
          refine VCmp.mk (fun g3 => ?_) (fun g3 => ?_) <;> (conv => whnf)
          · skip
            have ef : fieldP rr f = (0, [], 4) := by unfold fieldP; rw [if_neg (by omega), if_neg (fun h => by omega), if_neg (by omega), if_neg (by omega), if_pos (by omega)]
            have e : decF l f = (0, [], 4) := by unfold decF; rw [hsk]; dsimp only; rw [ef]; rfl
            rw [e]
            exact ⟨⟨none, 0, rfl, Own.nil _ _ _ _⟩, kp⟩
          refine VReq.mk (by omega) ?_
          refine VRes.shl8 rfl rfl ?_
          (conv => whnf)
          refine VIdx.sl (hr.keepNo kp) (1) (by first | rfl | omega) (by omega) (fun b_ o_ hA_ hc_ => ?_); (conv => whnf); refine VLoad.by_ hc_ ?_; (conv => whnf)
          refine VRes.i64 (by omega) ?_; (conv => whnf)
          refine VRes.or2 rfl rfl ?_
          (conv => whnf)
          have ef : fieldP rr f = (((two (rr.getD 0 0) (rr.getD 1 0) : Nat) : Int), rr.drop 2, 0) := by unfold fieldP; rw [if_neg (by omega), if_neg (fun h => by omega), if_neg (by omega), if_neg (by omega), if_neg (by omega)]
          refine VRes.i64 (by omega) ?_; (conv => whnf)
          refine VCmp.mk (fun h9 => ?_) (fun h9 => ?_) <;> (conv => whnf)
          · have e : decF l f = (0, [], 3) := by
              unfold decF; rw [hsk]; dsimp only; rw [ef]; rw [if_pos ⟨rfl, by show 1516 < (List.drop 2 _).length; rw [List.length_drop]; omega⟩]
            rw [e]
            exact ⟨⟨none, 0, rfl, Own.nil _ _ _ _⟩, kp⟩
          · refine VReq.mk hnc ?_
            refine VCut.by_ 2 (n) rfl rfl (by omega) (by omega) ?_
            intro A7 hA7
            have hcut7 := Sl.cut8 hr (l := 2) (h := n) (by omega) (Nat.le_refl _) hnc hA7
            rw [List.take_of_length_le (by omega)] at hcut7
            (conv => whnf)
            refine (copy_ok w1 (hcut7.keepNo kp) (by omega)).mono ?_
            rintro v w3 ⟨A8, c8, rfl, ho8, hk8⟩
            (conv => whnf)
            have e : decF l f = (((two (rr.getD 0 0) (rr.getD 1 0) : Nat) : Int), rr.drop 2, 0) := by
              unfold decF; rw [hsk]; dsimp only; rw [ef]; rw [if_neg (fun h => by have h := h.2; change 1516 < (List.drop 2 _).length at h; rw [List.length_drop] at h; omega)]
            rw [e]
            have hl8 : (rr.drop 2).length = n - 2 := by rw [List.length_drop]; omega
            rw [← hl8] at ho8
            exact ⟨⟨A8, c8, by rw [hl8]; rfl, ho8.mono (by omega)⟩, kp.trans hk8⟩
  · have hsk : skipP l f = if f.acfc then some l else none := by unfold skipP; rw [if_neg (fun h => by omega)]
    refine VLoad.by_ ((hb).cell 0) ?_; (conv => whnf)
    cases hac : f.acfc with
    | false =>
      (conv => whnf)
      rw [hac] at hsk
      have e : decF l f = (0, [], 4) := by unfold decF; rw [hsk]; rfl
      rw [e]
      exact ⟨⟨none, 0, rfl, Own.nil _ _ _ _⟩, kp⟩
    | true =>
      rw [hac, if_pos rfl] at hsk
      (conv => whnf)
      obtain ⟨rr, hrr⟩ : ∃ rr, rr = l := ⟨_, rfl⟩
      have hr := hs
      rw [← hrr] at hr
      have hsk : skipP l f = some rr := by rw [hsk, hrr]
      have hlr : rr.length = n := by simpa using hr.len
      have c0 := (rr.getD 0 0).toNat_lt
      have c1 := (rr.getD 1 0).toNat_lt
      refine VCmp.mk (fun g0 => ?_) (fun g0 => ?_) <;> (conv => whnf)
      · skip
        have ef : fieldP rr f = (0, [], 2) := by unfold fieldP; rw [if_pos (by omega)]
        have e : decF l f = (0, [], 2) := by unfold decF; rw [hsk]; dsimp only; rw [ef]; rfl
        rw [e]
        exact ⟨⟨none, 0, rfl, Own.nil _ _ _ _⟩, kp⟩
      refine VIdx.sl (hr.keepNo kp) (0) (by first | rfl | omega) (by omega) (fun b_ o_ hA_ hc_ => ?_); (conv => whnf); refine VLoad.by_ hc_ ?_; (conv => whnf)
      refine VRes.i64 (by omega) ?_; (conv => whnf)
      refine VIdx.sl (hr.keepNo kp) (0) (by first | rfl | omega) (by omega) (fun b_ o_ hA_ hc_ => ?_); (conv => whnf); refine VLoad.by_ hc_ ?_; (conv => whnf)
      refine VRes.odd8 rfl rfl ?_
      (conv => whnf)
      refine VCmp.mk (fun g1 => ?_) (fun g1 => ?_) <;> (conv => whnf)
      · refine VLoad.by_ ((hb).cell 1) ?_; (conv => whnf)
        cases hq : f.pfc with
        | false =>
          (conv => whnf)
          have ef : fieldP rr f = (0, [], 4) := by unfold fieldP; rw [if_neg (by omega), if_pos ⟨by omega, hq⟩]
          have e : decF l f = (0, [], 4) := by unfold decF; rw [hsk]; dsimp only; rw [ef]; rfl
          rw [e]
          exact ⟨⟨none, 0, rfl, Own.nil _ _ _ _⟩, kp⟩
        | true =>
          (conv => whnf)
          have ef : fieldP rr f = ((((rr.getD 0 0).toNat : Nat) : Int), rr.drop 1, 0) := by unfold fieldP; rw [if_neg (by omega), if_neg (by rw [hq]; simp), if_pos (by omega)]
          refine VRes.i64 (by omega) ?_; (conv => whnf)
          refine VCmp.mk (fun h9 => ?_) (fun h9 => ?_) <;> (conv => whnf)
          · have e : decF l f = (0, [], 3) := by
              unfold decF; rw [hsk]; dsimp only; rw [ef]; rw [if_pos ⟨rfl, by show 1516 < (List.drop 1 _).length; rw [List.length_drop]; omega⟩]
            rw [e]
            exact ⟨⟨none, 0, rfl, Own.nil _ _ _ _⟩, kp⟩
          · refine VReq.mk hnc ?_
            refine VCut.by_ 1 (n) rfl rfl (by omega) (by omega) ?_
            intro A7 hA7
            have hcut7 := Sl.cut8 hr (l := 1) (h := n) (by omega) (Nat.le_refl _) hnc hA7
            rw [List.take_of_length_le (by omega)] at hcut7
            (conv => whnf)
            refine (copy_ok w1 (hcut7.keepNo kp) (by omega)).mono ?_
            rintro v w3 ⟨A8, c8, rfl, ho8, hk8⟩
            (conv => whnf)
            have e : decF l f = ((((rr.getD 0 0).toNat : Nat) : Int), rr.drop 1, 0) := by
              unfold decF; rw [hsk]; dsimp only; rw [ef]; rw [if_neg (fun h => by have h := h.2; change 1516 < (List.drop 1 _).length at h; rw [List.length_drop] at h; omega)]
            rw [e]
            have hl8 : (rr.drop 1).length = n - 1 := by rw [List.length_drop]; omega
            rw [← hl8] at ho8
            exact ⟨⟨A8, c8, by rw [hl8]; rfl, ho8.mono (by omega)⟩, kp.trans hk8⟩
      · refine VCmp.mk (fun g2 => ?_) (fun g2 => ?_) <;> (conv => whnf)
        · skip
          have ef : fieldP rr f = (0, [], 2) := by unfold fieldP; rw [if_neg (by omega), if_neg (fun h => by omega), if_neg (by omega), if_pos (by omega)]
          have e : decF l f = (0, [], 2) := by unfold decF; rw [hsk]; dsimp only; rw [ef]; rfl
          rw [e]
          exact ⟨⟨none, 0, rfl, Own.nil _ _ _ _⟩, kp⟩
        refine VIdx.sl (hr.keepNo kp) (1) (by first | rfl | omega) (by omega) (fun b_ o_ hA_ hc_ => ?_); (conv => whnf); refine VLoad.by_ hc_ ?_; (conv => whnf)
        refine VRes.odd8 rfl rfl ?_
        (conv => whnf)
        refine VCmp.mk (fun g3 => ?_) (fun g3 => ?_) <;> (conv => whnf)
        · skip
          have ef : fieldP rr f = (0, [], 4) := by unfold fieldP; rw [if_neg (by omega), if_neg (fun h => by omega), if_neg (by omega), if_neg (by omega), if_pos (by omega)]
          have e : decF l f = (0, [], 4) := by unfold decF; rw [hsk]; dsimp only; rw [ef]; rfl
          rw [e]
          exact ⟨⟨none, 0, rfl, Own.nil _ _ _ _⟩, kp⟩
        refine VReq.mk (by omega) ?_
        refine VRes.shl8 rfl rfl ?_
        (conv => whnf)
        refine VIdx.sl (hr.keepNo kp) (1) (by first | rfl | omega) (by omega) (fun b_ o_ hA_ hc_ => ?_); (conv => whnf); refine VLoad.by_ hc_ ?_; (conv => whnf)
        refine VRes.i64 (by omega) ?_; (conv => whnf)
        refine VRes.or2 rfl rfl ?_
        (conv => whnf)
        have ef : fieldP rr f = (((two (rr.getD 0 0) (rr.getD 1 0) : Nat) : Int), rr.drop 2, 0) := by unfold fieldP; rw [if_neg (by omega), if_neg (fun h => by omega), if_neg (by omega), if_neg (by omega), if_neg (by omega)]
        refine VRes.i64 (by omega) ?_; (conv => whnf)
        refine VCmp.mk (fun h9 => ?_) (fun h9 => ?_) <;> (conv => whnf)
        · have e : decF l f = (0, [], 3) := by
            unfold decF; rw [hsk]; dsimp only; rw [ef]; rw [if_pos ⟨rfl, by show 1516 < (List.drop 2 _).length; rw [List.length_drop]; omega⟩]
          rw [e]
          exact ⟨⟨none, 0, rfl, Own.nil _ _ _ _⟩, kp⟩
        · refine VReq.mk hnc ?_
          refine VCut.by_ 2 (n) rfl rfl (by omega) (by omega) ?_
          intro A7 hA7
          have hcut7 := Sl.cut8 hr (l := 2) (h := n) (by omega) (Nat.le_refl _) hnc hA7
          rw [List.take_of_length_le (by omega)] at hcut7
          (conv => whnf)
          refine (copy_ok w1 (hcut7.keepNo kp) (by omega)).mono ?_
          rintro v w3 ⟨A8, c8, rfl, ho8, hk8⟩
          (conv => whnf)
          have e : decF l f = (((two (rr.getD 0 0) (rr.getD 1 0) : Nat) : Int), rr.drop 2, 0) := by
            unfold decF; rw [hsk]; dsimp only; rw [ef]; rw [if_neg (fun h => by have h := h.2; change 1516 < (List.drop 2 _).length at h; rw [List.length_drop] at h; omega)]
          rw [e]
          have hl8 : (rr.drop 2).length = n - 2 := by rw [List.length_drop]; omega
          rw [← hl8] at ho8
          exact ⟨⟨A8, c8, by rw [hl8]; rfl, ho8.mono (by omega)⟩, kp.trans hk8⟩
end Go.Proofs.YtpofkhjkdkkajaaDoor
