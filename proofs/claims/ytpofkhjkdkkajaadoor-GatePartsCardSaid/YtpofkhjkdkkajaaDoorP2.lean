/-
  bytes.Clone; packet's reading.
-/
import Derived.Test.YtpofkhjkdkkajaaDoorP1
import Derived.Test.YtpofkhjkdkkajaaDoorVr
namespace Go.Proofs.YtpofkhjkdkkajaaDoor.Pk
open Go V

theorem clone_ok (w : World) {A : Option Addr} {n c : Nat} {l : List UInt8} (hs : Sl w 1 A n (l.map vb)) (hn : n ≤ 1000000) :
    VC Tryd.prog 58 [.slice A n c] w (fun v w' => ∃ A' c', v = .slice A' n c' ∧ Own w' w.heap.size T8 1 A' n c' (l.map vb) ∧ Keep No w w') := by
  have hl : l.length = n := by simpa using hs.len
  cases A with
  | none =>
    refine VC.of tt_ok Tryd.func58 rfl (by decide +kernel) (Nat.le_of_ble_eq_true rfl) ?_; (conv => whnf)
    have h0 : n = 0 := by
      rcases Nat.eq_zero_or_pos n with h | h
      · exact h
      · obtain ⟨b, o, h1, _⟩ := hs.at_ h; cases h1
    subst h0
    obtain rfl : l = [] := List.eq_nil_of_length_eq_zero hl
    exact ⟨none, 0, rfl, Own.nil _ _ _ _, Keep.refl _ _⟩
  | some a =>
    refine VC.of tt_ok Tryd.func58 rfl (by decide +kernel) (Nat.le_of_ble_eq_true rfl) ?_; (conv => whnf)
    refine VFill.by_ rfl ?_
    (conv => whnf)
    refine ⟨fun w1 hb1 hk1 => ?_⟩
    (conv => whnf)
    refine app8 (w0 := w) (xs := []) hk1 (Own.new (n := 0) hb1 (Nat.le_refl _) rfl (by unfold maxLen; omega)) (hs.keepNo hk1) (by omega) ?_
    intro A2 c2 w2 ho2 hk2 _ _
    (conv => whnf)
    rw [Nat.zero_add] at ho2
    exact ⟨A2, c2, by rw [Nat.zero_add]; rfl, ho2, hk2⟩

abbrev TPk : TypeId := 80
/-- What a packet's bytes say. -/
structure Pk where
  code : Int
  id : Int
  data : List UInt8
def Pk.zero : Pk := ⟨0, 0, []⟩
def decodeP (l : List UInt8) : Pk × Int :=
  if l.length < 4 then (Pk.zero, 2) else
  if two (l.getD 2 0) (l.getD 3 0) < 4 then (Pk.zero, 4) else
  if l.length < two (l.getD 2 0) (l.getD 3 0) then (Pk.zero, 2) else
  if 1500 < two (l.getD 2 0) (l.getD 3 0) then (Pk.zero, 3) else
  (⟨(l.getD 0 0).toNat, (l.getD 1 0).toNat, (l.take (two (l.getD 2 0) (l.getD 3 0))).drop 4⟩, 0)
/-- A packet as a value; its data in blocks from 'base' on. -/
def PkV (w : World) (base : Nat) (v : Value) (p : Pk) : Prop := ∃ A n c, v = .agg #[.int .i64 p.code, .int .i64 p.id, .slice A n c] ∧ Sl w 1 A n (p.data.map vb) ∧ n ≤ c ∧ ∀ a, A = some a → base ≤ a.block
theorem PkV.keepNo {w w' : World} {base : Nat} {v : Value} {p : Pk} (h : PkV w base v p) (k : Keep No w w') : PkV w' base v p := by
  obtain ⟨A, n, c, h1, h2, h3, h4⟩ := h
  exact ⟨A, n, c, h1, h2.keepNo k, h3, h4⟩
theorem PkV.keepLo {w w' : World} {base b : Nat} {v : Value} {p : Pk} (h : PkV w base v p) (k : Keep (fun k => k = b) w w') (hb : b < base) : PkV w' base v p := by
  obtain ⟨A, n, c, h1, h2, h3, h4⟩ := h
  exact ⟨A, n, c, h1, h2.keep k (fun a ha e => by have := h4 a ha; omega), h3, h4⟩
theorem PkV.mono {w : World} {base base' : Nat} {v : Value} {p : Pk} (h : PkV w base v p) (hb : base' ≤ base) : PkV w base' v p := by
  obtain ⟨A, n, c, h1, h2, h3, h4⟩ := h
  exact ⟨A, n, c, h1, h2, h3, fun a ha => Nat.le_trans hb (h4 a ha)⟩

theorem read_ok (w : World) {A : Option Addr} {n c : Nat} {l : List UInt8} (hs : Sl w 1 A n (l.map vb)) (hn : n ≤ 100000) (hc : n ≤ c) :
    VC Tryd.prog 48 [.slice A n c] w (fun v w' => ∃ x E, v = .tuple #[x, E] ∧ PkV w' w.heap.size x (decodeP l).1 ∧ ErrV w' E (decodeP l).2 ∧ Keep No w w') := by
  have hl : l.length = n := by simpa using hs.len
  refine VC.of tt_ok Tryd.func48 rfl (by decide +kernel) (Nat.le_of_ble_eq_true rfl) ?_; (conv => whnf)
  refine ⟨fun w1 hb1 hk1 => ?_⟩
  (conv => whnf)
  refine VCmp.mk (fun h => ?_) (fun h => ?_) <;> (conv => whnf)
  · have hd : decodeP l = (Pk.zero, 2) := by unfold decodeP; rw [if_pos (by omega)]
    rw [hd]
    refine VFill.by_ rfl ?_
    (conv => whnf)
    refine (fault_ok w1 2).mono ?_
    rintro v w2 ⟨rfl, hf2, hk2⟩
    (conv => whnf)
    refine VReq.mk ⟨rfl, (fun u hu => List.all_eq_true.mp (show List.all _ (fun u => u.oneCell') = true by rfl) u hu)⟩ ?_
    refine VStore.all (Blk.keep hb1 hk2 id) (by rfl) ?_
    intro w3 hb3 hk3 _
    (conv => whnf)
    refine VLoads.blk hb3 rfl ?_
    (conv => whnf)
    exact ⟨_, _, rfl, ⟨none, 0, 0, rfl, Sl.nil, Nat.le_refl _, fun a ha => by cases ha⟩, .inr ⟨_, rfl, hk3.cell hf2 (by have := hk1.size; have := Blk.lt hb1; show ¬ w1.heap.size = w.heap.size; omega), by decide⟩, (hk1.trans hk2).toNo hk3 (fun j e => by omega)⟩
  · obtain ⟨b, o, hA, hcell⟩ := (hs.keepNo hk1).at_ (by omega)
    have hg : ∀ j, j < n → w1.cell? ⟨b, o + j, none⟩ = some (vb (l.getD j 0)) := fun j hj => hcell j _ (by rw [List.getElem?_map, List.getElem?_eq_getElem (by omega)]; simp [List.getD_eq_getElem?_getD, List.getElem?_eq_getElem (show j < l.length by omega)])
    refine VDraw.by_ tt_ok rfl (.take 0 (.take 1 (.take 2 (.take 3 (.take 4 (.take 5 (.take 6 (.take 7 (.take 8 (.take 9 (.take 10 .done))))))))))) (by decide +kernel) _ (fun x h1 h2 h3 h4 => Keep.ofHeap h1 h2 h3 h4) (fun wd hd kd => ?_)
    (conv => whnf)
    refine VIdx.one 2 rfl (by omega) hA ?_
    (conv => whnf)
    refine VLoad.keep (hg 2 (by omega)) ?_
    (conv => whnf)
    refine VRes.i64 (by have := (l.getD 2 0).toNat_lt; omega) ?_
    (conv => whnf)
    refine VReq.mk (by omega) ?_
    refine VRes.to (v' := .int .i64 ((l.getD 2 0).toNat * 256 : Nat)) (congrArg (Value.int .i64) (by
      have := (l.getD 2 0).toNat_lt
      show IntKind.wrap .i64 (((l.getD 2 0).toNat : Int) * 256) = _
      rw [wrap_i64 (by omega)]; omega)) ?_
    (conv => whnf)
    refine VIdx.one 3 rfl (by omega) hA ?_
    (conv => whnf)
    refine VLoad.keep (hg 3 (by omega)) ?_
    (conv => whnf)
    refine VRes.i64 (by have := (l.getD 3 0).toNat_lt; omega) ?_
    (conv => whnf)
    refine VRes.or2 rfl rfl ?_
    (conv => whnf)
    have htw := two_lt (l.getD 2 0) (l.getD 3 0)
    have hdec : decodeP l = (if two (l.getD 2 0) (l.getD 3 0) < 4 then (Pk.zero, 4) else if l.length < two (l.getD 2 0) (l.getD 3 0) then (Pk.zero, 2) else if 1500 < two (l.getD 2 0) (l.getD 3 0) then (Pk.zero, 3) else (⟨(l.getD 0 0).toNat, (l.getD 1 0).toNat, (l.take (two (l.getD 2 0) (l.getD 3 0))).drop 4⟩, 0)) := by
      unfold decodeP; rw [if_neg (by omega)]
    rw [hdec]
    generalize two (l.getD 2 0) (l.getD 3 0) = t at *
    have kw := hk1.trans kd
    have hb1d := Blk.keep hb1 kd id
    have hs1 := hk1.size
    have hsd := kd.size
    have hlt := Blk.lt hb1
    refine VCmp.mk (fun h4 => ?_) (fun h4 => ?_) <;> (conv => whnf)
    · rw [if_pos (by omega)]
      refine VFill.by_ rfl ?_
      (conv => whnf)
      refine (fault_ok wd 4).mono ?_
      rintro v w2 ⟨rfl, hf2, hk2⟩
      (conv => whnf)
      refine VReq.mk ⟨rfl, (fun u hu => List.all_eq_true.mp (show List.all _ (fun u => u.oneCell') = true by rfl) u hu)⟩ ?_
      refine VStore.all (Blk.keep hb1d hk2 id) (by rfl) ?_
      intro w3 hb3 hk3 _
      (conv => whnf)
      refine VLoads.blk hb3 rfl ?_
      (conv => whnf)
      exact ⟨_, _, rfl, ⟨none, 0, 0, rfl, Sl.nil, Nat.le_refl _, fun a ha => by cases ha⟩, .inr ⟨_, rfl, hk3.cell hf2 (by show ¬ wd.heap.size = w.heap.size; omega), by decide⟩, (kw.trans hk2).toNo hk3 (fun j e => by omega)⟩
    rw [if_neg (by omega)]
    refine VCmp.mk (fun h5 => ?_) (fun h5 => ?_) <;> (conv => whnf)
    · rw [if_pos (by omega)]
      refine VFill.by_ rfl ?_
      (conv => whnf)
      refine (fault_ok wd 2).mono ?_
      rintro v w2 ⟨rfl, hf2, hk2⟩
      (conv => whnf)
      refine VReq.mk ⟨rfl, (fun u hu => List.all_eq_true.mp (show List.all _ (fun u => u.oneCell') = true by rfl) u hu)⟩ ?_
      refine VStore.all (Blk.keep hb1d hk2 id) (by rfl) ?_
      intro w3 hb3 hk3 _
      (conv => whnf)
      refine VLoads.blk hb3 rfl ?_
      (conv => whnf)
      exact ⟨_, _, rfl, ⟨none, 0, 0, rfl, Sl.nil, Nat.le_refl _, fun a ha => by cases ha⟩, .inr ⟨_, rfl, hk3.cell hf2 (by show ¬ wd.heap.size = w.heap.size; omega), by decide⟩, (kw.trans hk2).toNo hk3 (fun j e => by omega)⟩
    rw [if_neg (by omega)]
    refine VCmp.mk (fun h6 => ?_) (fun h6 => ?_) <;> (conv => whnf)
    · rw [if_pos (by omega)]
      refine VFill.by_ rfl ?_
      (conv => whnf)
      refine (fault_ok wd 3).mono ?_
      rintro v w2 ⟨rfl, hf2, hk2⟩
      (conv => whnf)
      refine VReq.mk ⟨rfl, (fun u hu => List.all_eq_true.mp (show List.all _ (fun u => u.oneCell') = true by rfl) u hu)⟩ ?_
      refine VStore.all (Blk.keep hb1d hk2 id) (by rfl) ?_
      intro w3 hb3 hk3 _
      (conv => whnf)
      refine VLoads.blk hb3 rfl ?_
      (conv => whnf)
      exact ⟨_, _, rfl, ⟨none, 0, 0, rfl, Sl.nil, Nat.le_refl _, fun a ha => by cases ha⟩, .inr ⟨_, rfl, hk3.cell hf2 (by show ¬ wd.heap.size = w.heap.size; omega), by decide⟩, (kw.trans hk2).toNo hk3 (fun j e => by omega)⟩
    rw [if_neg (by omega)]
    have kd1 := kd
    have hgd : ∀ j, j < n → wd.cell? ⟨b, o + j, none⟩ = some (vb (l.getD j 0)) := fun j hj => kd.cell (hg j hj) id
    have hsd1 := (hs.keepNo hk1).keepNo kd
    refine VDraw.by_ tt_ok rfl (.take 0 (.take 1 (.take 2 (.take 3 (.take 4 (.take 5 (.take 6 (.take 7 (.take 8 (.take 9 (.take 10 (.one 11 (.take 12 (.one 13 (.take 14 .done))))))))))))))) (by decide +kernel) _ (fun x h1 h2 h3 h4 => Keep.ofHeap h1 h2 h3 h4) (fun wd hd kd => ?_)
    (conv => whnf)
    refine VIdx.one 0 rfl (by omega) hA ?_
    (conv => whnf)
    refine VLoad.keep (hgd 0 (by omega)) ?_
    (conv => whnf)
    refine VRes.i64 (by have := (l.getD 0 0).toNat_lt; omega) ?_
    (conv => whnf)
    refine VIdx.one 1 rfl (by omega) hA ?_
    (conv => whnf)
    refine VLoad.keep (hgd 1 (by omega)) ?_
    (conv => whnf)
    refine VRes.i64 (by have := (l.getD 1 0).toNat_lt; omega) ?_
    (conv => whnf)
    refine VCut.by_ 4 t rfl rfl (by omega) (by omega) ?_
    intro A2 hA2
    have hsc := (Sl.cut hsd1 (l := 4) (h := t) (by omega) (by omega) hc hA2).keepNo kd
    rw [show ((l.map vb).take (t * 1)).drop (4 * 1) = ((l.take t).drop 4).map vb from by rw [Nat.mul_one, Nat.mul_one, List.map_drop, List.map_take]] at hsc
    (conv => whnf)
    refine (clone_ok wd hsc (by omega)).mono ?_
    rintro v w2 ⟨A3, c3, rfl, ho3, hk2⟩
    (conv => whnf)
    refine VOwe.same (kd.trans hk2) ?_
    (conv => whnf)
    refine VFill.by_ rfl ?_
    (conv => whnf)
    refine VReq.mk ⟨rfl, (fun u hu => List.all_eq_true.mp (show List.all _ (fun u => u.oneCell') = true by rfl) u hu)⟩ ?_
    have kd2 := kd.trans hk2
    refine VStore.all (Blk.keep hb1d kd2 id) (by rfl) ?_
    intro w3 hb3 hk3 _
    refine VOwe.to (fun _ => True) (fun h => absurd h (by decide +kernel)) trivial ?_
    (conv => whnf)
    refine VLoads.blk hb3 rfl ?_
    (conv => whnf)
    have hs2 := kd2.size
    have hs3 := kd.size
    exact ⟨_, _, rfl, ⟨A3, _, c3, rfl, Sl.ofOwn (ho3.keep hk3 (fun a ha e => by have := (ho3.base_ ha).1; omega)), ho3.le, fun a ha => by have := (ho3.base_ ha).1; omega⟩, .inl ⟨rfl, rfl⟩, ((kw.trans kd2).toNo hk3 (fun j e => by omega))⟩
end Go.Proofs.YtpofkhjkdkkajaaDoor.Pk
