/-
  Packet: split, Split; the reference's.
-/
import Derived.Test.YtpofkhjkdkkajaaDoorP4
namespace Go.Proofs.YtpofkhjkdkkajaaDoor.Pk
open Go V

def splitBad (l : List UInt8) : Prop := l.length < 2 ∨ (l.getD 1 0).toNat < 2 ∨ l.length < (l.getD 1 0).toNat
instance (l : List UInt8) : Decidable (splitBad l) := inferInstanceAs (Decidable (_ ∨ _ ∨ _))
def firstO (l : List UInt8) : Opt := ⟨((l.getD 0 0).toNat : Nat), (l.take (l.getD 1 0).toNat).drop 2⟩
def splitF : Nat → List UInt8 → List Opt → List Opt × Int
  | 0, _, acc => (acc, 0)
  | f + 1, l, acc => if l.length = 0 then (acc, 0) else if acc.length = 32 then ([], 3) else if splitBad l then ([], 4) else splitF f (l.drop (l.getD 1 0).toNat) (acc ++ [firstO l])
def splitP (l : List UInt8) : List Opt × Int := splitF l.length l []

theorem splitF_fuel : ∀ (f g : Nat) (l : List UInt8) (acc : List Opt), l.length ≤ f → l.length ≤ g → splitF f l acc = splitF g l acc
  | 0, 0, _, _, _, _ => rfl
  | 0, g + 1, l, acc, h, _ => by unfold splitF; rw [if_pos (by omega)]
  | f + 1, 0, l, acc, _, h => by unfold splitF; rw [if_pos (by omega)]
  | f + 1, g + 1, l, acc, h1, h2 => by
    unfold splitF
    split
    · rfl
    · split
      · rfl
      · split
        · rfl
        · rename_i h3 _ h5
          unfold splitBad at h5
          exact splitF_fuel f g _ _ (by rw [List.length_drop]; omega) (by rw [List.length_drop]; omega)
theorem splitF_step {l : List UInt8} {acc : List Opt} (h0 : 0 < l.length) (h1 : acc.length ≠ 32) (h2 : ¬ splitBad l) : splitF l.length l acc = splitF (l.drop (l.getD 1 0).toNat).length (l.drop (l.getD 1 0).toNat) (acc ++ [firstO l]) := by
  obtain ⟨f, hf⟩ : ∃ f, l.length = f + 1 := ⟨l.length - 1, by omega⟩
  have h2' := h2
  unfold splitBad at h2'
  rw [hf]
  conv => lhs; unfold splitF
  rw [if_neg (by omega), if_neg h1, if_neg h2]
  exact splitF_fuel _ _ _ _ (by rw [List.length_drop]; omega) (Nat.le_refl _)
theorem splitF_end {l : List UInt8} {acc : List Opt} (h0 : l.length = 0) : splitF l.length l acc = (acc, 0) := by rw [h0]; rfl
theorem splitF_long {l : List UInt8} {acc : List Opt} (h0 : 0 < l.length) (h1 : acc.length = 32) : splitF l.length l acc = ([], 3) := by
  obtain ⟨f, hf⟩ : ∃ f, l.length = f + 1 := ⟨l.length - 1, by omega⟩
  rw [hf]; unfold splitF; rw [if_neg (by omega), if_pos h1]
theorem splitF_bad {l : List UInt8} {acc : List Opt} (h0 : 0 < l.length) (h1 : acc.length ≠ 32) (h2 : splitBad l) : splitF l.length l acc = ([], 4) := by
  obtain ⟨f, hf⟩ : ∃ f, l.length = f + 1 := ⟨l.length - 1, by omega⟩
  rw [hf]; unfold splitF; rw [if_neg (by omega), if_neg h1, if_pos h2]

abbrev OpsT (w : World) (cells : List Value) (os : List Opt) : Prop := Ops w (fun k => Ty w k T8) cells os
theorem OpsT.keep {S : Nat → Prop} {w w' : World} {cells : List Value} {os : List Opt} (h : OpsT w cells os) (k : Keep S w w') (hs : ∀ i, Ty w i T8 → ¬ S i) : OpsT w' cells os := by
  refine ⟨h.1, fun i o ho => ?_⟩
  obtain ⟨A, c, h1, h2, h3, h4, h5⟩ := h.2 i o ho
  exact ⟨A, c, h1, h2, h3, h4.keepP k (fun a ha h0 => hs _ (h5 a ha h0)), fun a ha h0 => (h5 a ha h0).keep k (hs _ (h5 a ha h0))⟩
theorem OpsT.keepNo {w w' : World} {cells : List Value} {os : List Opt} (h : OpsT w cells os) (k : Keep No w w') : OpsT w' cells os := h.keep k (fun _ _ => id)

/-- append of options onto options of the call's own. -/
theorem appOp {w0 w : World} {ty : TypeId} {K : Value → World → Prop} {A : Option Addr} {n c : Nat} {xs : List Value} {B : Option Addr} {m d : Nat} {ys : List Value}
    (h0 : Keep No w0 w) (hown : Own w w0.heap.size TOp 2 A n c xs) (hsrc : Sl w 2 B m ys) (h1 : ∀ u ∈ ys, u.oneCell' = true) (hlen : n + m ≤ 1000000)
    (hK : ∀ A' c' w', Own w' w0.heap.size TOp 2 A' (n + m) c' (xs ++ ys) → Keep No w0 w' → Keep (ownS A) w w' → K (.slice A' (n + m) c') w') :
    VApp Tryd.prog w #[TSOp, TSOp] ty (.slice A n c) (.slice B m d) K :=
  VApp.own tt_ok (it := ty83) (ei := ty87) rfl rfl rfl (size := 2) rfl rfl (by omega) hown hsrc h1 (by show (n + m) * 32 ≤ _; omega) (by omega) h0.size
    fun A' c' w' h1 h2 _ => hK A' c' w' h1 (h0.own hown h2) h2

theorem split_ok (w : World) {A : Option Addr} {n c : Nat} {l : List UInt8} (hs : Sl w 1 A n (l.map vb)) (hn : n ≤ 100000) (hc : n ≤ c) :
    VC Tryd.prog 50 [.slice A n c] w (fun v w' => ∃ A' n' c' cells E, v = .tuple #[.slice A' n' c', E] ∧ Sl w' 2 A' n' cells ∧ Ops w' (fun _ => True) cells (splitP l).1 ∧ n' ≤ c' ∧ (∀ a, A' = some a → w.heap.size ≤ a.block) ∧ ErrV w' E (splitP l).2 ∧ Keep No w w') := by
  have hl : l.length = n := by simpa using hs.len
  refine VC.of tt_ok Tryd.func50 rfl (by decide +kernel) (Nat.le_of_ble_eq_true rfl) ?_; (conv => whnf)
  refine VLoop.by_ tt_ok (S := List UInt8 × Option Addr × Nat × Nat × Option Addr × Nat × List Value × List Opt) (fun | (r, Ab, nb, cb, Al, cl, cells, acc) => [(0, .slice Ab nb cb), (4, .slice Al acc.length cl)])
    (fun | (r, Ab, nb, cb, Al, cl, cells, acc) => fun w' => Sl w 1 Ab nb (r.map vb) ∧ nb ≤ 100000 ∧ nb ≤ cb ∧ Own w' w.heap.size TOp 2 Al acc.length cl cells ∧ OpsT w' cells acc ∧ acc.length ≤ 32 ∧ splitF r.length r acc = splitP l ∧ Keep No w w') (fun | (r, _) => r.length)
    (l, A, n, c, none, 0, [], []) ⟨rfl, rfl, trivial⟩ ⟨hs, hn, hc, Own.nil _ _ _ _, Ops.nil _ _, by simp, rfl, Keep.refl _ _⟩ ?_
  rintro ⟨r, Ab, nb, cb, Al, cl, cells, acc⟩ w' ⟨hr, hnb, hcb, hown, hops, h32, hsp, kp⟩
  have hlr : r.length = nb := by simpa using hr.len
  (conv => whnf)
  refine VCmp.mk (fun h => ?_) (fun h => ?_) <;> (conv => whnf)
  rotate_left 1
  · rw [splitF_end (by omega)] at hsp
    rw [← hsp]
    exact ⟨Al, acc.length, cl, cells, .nilIface, rfl, Sl.ofOwn hown, hops.mono (fun _ _ => trivial), hown.le, fun a ha => (hown.base_ ha).1, .inl ⟨rfl, rfl⟩, kp⟩
  have b1 := (r.getD 1 0).toNat_lt
  refine VCmp.mk (fun h1 => ?_) (fun h1 => ?_) <;> (conv => whnf)
  · rw [splitF_long (by omega) (by omega)] at hsp
    rw [← hsp]
    refine (fault_ok w' 3).mono ?_
    rintro v w2 ⟨rfl, hf2, hk2⟩
    (conv => whnf)
    exact ⟨none, 0, 0, [], _, rfl, Sl.nil, Ops.nil _ _, Nat.le_refl _, (fun a ha => by cases ha), .inr ⟨_, rfl, hf2, by decide⟩, kp.trans hk2⟩
  have bad : splitBad r → VC Tryd.prog 57 [.int .i64 4] w' (fun v w2 => ∃ A' n' c' cells E, Value.tuple #[.slice none 0 0, v] = .tuple #[.slice A' n' c', E] ∧ Sl w2 2 A' n' cells ∧ Ops w2 (fun _ => True) cells (splitP l).1 ∧ n' ≤ c' ∧ (∀ a, A' = some a → w.heap.size ≤ a.block) ∧ ErrV w2 E (splitP l).2 ∧ Keep No w w2) := by
    intro hb
    rw [splitF_bad (by omega) (by omega) hb] at hsp
    rw [← hsp]
    refine (fault_ok w' 4).mono ?_
    rintro v w2 ⟨rfl, hf2, hk2⟩
    exact ⟨none, 0, 0, [], _, rfl, Sl.nil, Ops.nil _ _, Nat.le_refl _, (fun a ha => by cases ha), .inr ⟨_, rfl, hf2, by decide⟩, kp.trans hk2⟩
  refine VCmp.mk (fun h2 => ?_) (fun h2 => ?_) <;> (conv => whnf)
  · refine (bad (by unfold splitBad; omega)).mono ?_
    rintro v w2 h
    (conv => whnf)
    exact h
  refine VIdx.sl (hr.keepNo kp) (1) (by first | rfl | omega) (by omega) (fun b_ o_ hA_ hc_ => ?_); (conv => whnf); refine VLoad.by_ hc_ ?_; (conv => whnf)
  refine VRes.i64 (by omega) ?_; (conv => whnf)
  refine VCmp.mk (fun h3 => ?_) (fun h3 => ?_) <;> (conv => whnf)
  · refine (bad (by unfold splitBad; omega)).mono ?_
    rintro v w2 h
    (conv => whnf)
    exact h
  refine VIdx.sl (hr.keepNo kp) (1) (by first | rfl | omega) (by omega) (fun b_ o_ hA_ hc_ => ?_); (conv => whnf); refine VLoad.by_ hc_ ?_; (conv => whnf)
  refine VRes.i64 (by omega) ?_; (conv => whnf)
  refine VCmp.mk (fun h4 => ?_) (fun h4 => ?_) <;> (conv => whnf)
  · refine (bad (by unfold splitBad; omega)).mono ?_
    rintro v w2 h
    (conv => whnf)
    exact h
  have hgood : ¬ splitBad r := by unfold splitBad; omega
  rw [splitF_step (by omega) (by omega) hgood] at hsp
  refine VIdx.sl (hr.keepNo kp) (1) (by first | rfl | omega) (by omega) (fun b_ o_ hA_ hc_ => ?_); (conv => whnf); refine VLoad.by_ hc_ ?_; (conv => whnf)
  refine VRes.i64 (by omega) ?_; (conv => whnf)
  refine VDraw.by_ tt_ok rfl (.take 0 (.take 1 (.take 2 (.take 3 (.take 4 (.take 5 (.take 6 (.take 7 (.one 8 (.take 9 (.one 10 (.one 11 (.take 12 .done))))))))))))) (by decide +kernel) (fun x => Keep No w x) (fun x h1 h2 h3 h4 => kp.trans (Keep.ofHeap h1 h2 h3 h4)) (fun wd hd kd => ?_)
  have kp := kp.keepNo kd; have hown := hown.keepNo kd; have hops := hops.keepNo kd
  have b0 := (r.getD 0 0).toNat_lt
  (conv => whnf)
  refine VIdx.sl (hr) (0) (by first | rfl | omega) (by omega) (fun b_ o_ hA_ hc_ => ?_); (conv => whnf); refine VLoad.keep hc_ ?_; (conv => whnf)
  refine VRes.i64 (by omega) ?_; (conv => whnf)
  refine VCut.by_ 2 (r.getD 1 0).toNat rfl rfl (by omega) (by omega) ?_
  intro A2 hA2
  have hsc := (Sl.cut hr (l := 2) (h := (r.getD 1 0).toNat) (by omega) (by omega) hcb hA2).keepNo kp
  rw [show ((r.map vb).take ((r.getD 1 0).toNat * 1)).drop (2 * 1) = (firstO r).data.map vb from by rw [Nat.mul_one, Nat.mul_one, ← List.map_take, ← List.map_drop]; rfl] at hsc
  (conv => whnf)
  refine (clone_ok wd hsc (by omega)).mono ?_
  rintro v w2 ⟨A3, c3, rfl, ho3, hk2⟩
  have kp := kp.keepNo hk2; have hown := hown.keepNo hk2; have hops := hops.keepNo hk2
  (conv => whnf)
  refine VOwe.same kp ?_
  (conv => whnf)
  refine VFill.by_ rfl ?_; (conv => whnf)
  refine VFill.by_ rfl ?_; (conv => whnf)
  refine ⟨fun w3 hb3 hk3 => ?_⟩; have hb3_lt := Blk.lt hb3; have hk3_sz := hk3.size; (conv => whnf)
  have kp := kp.keepNo hk3; have hown := hown.keepNo hk3; have hops := hops.keepNo hk3; have ho3 := ho3.keepNo hk3
  refine VOwe.same kp ?_
  (conv => whnf)
  have hdl : (firstO r).data.length = (r.getD 1 0).toNat - 2 := by show ((r.take _).drop 2).length = _; rw [List.length_drop, List.length_take]; omega
  have hone : OpsT w3 [.int .i64 ((r.getD 0 0).toNat : Nat), .slice A3 ((r.getD 1 0).toNat - 2) c3] [firstO r] := Ops.one' hdl rfl ho3.le (Sl.ofOwn ho3) (fun a ha _ => ho3.ty ha)
  refine appOp (w0 := w) kp hown (Sl.ofBlk (n := 1) (size := 2) hb3 rfl) hone.cells1 (by omega) ?_
  intro A4 c4 w4 ho4 hk4 hkA
  (conv => whnf)
  refine VOwe.same hk4 ?_
  (conv => whnf)
  refine VReq.mk hcb ?_
  refine VCut.by_ (r.getD 1 0).toNat nb rfl rfl (by omega) (by omega) ?_
  intro A5 hA5
  have hsr := Sl.cut hr (l := (r.getD 1 0).toNat) (h := nb) (by omega) (Nat.le_refl _) hcb hA5
  rw [show ((r.map vb).take (nb * 1)).drop ((r.getD 1 0).toNat * 1) = (r.drop (r.getD 1 0).toNat).map vb from by rw [Nat.mul_one, Nat.mul_one, List.map_drop, List.take_of_length_le (by simp; omega)]] at hsr
  (conv => whnf)
  have hops4 : OpsT w4 (cells ++ [.int .i64 ((r.getD 0 0).toNat : Nat), .slice A3 ((r.getD 1 0).toNat - 2) c3]) (acc ++ [firstO r]) := OpsT.keep (Ops.append hops hone) hkA (fun i hi ⟨a, ha, e⟩ => (hi.ne (hown.ty ha) (by decide)) e.symm)
  refine ⟨(r.drop (r.getD 1 0).toNat, A5, nb - (r.getD 1 0).toNat, cb - (r.getD 1 0).toNat, A4, c4, _, acc ++ [firstO r]), ⟨rfl, by rw [List.length_append]; rfl, trivial⟩, ⟨hsr, by omega, by omega, by rw [List.length_append]; exact ho4, hops4, by rw [List.length_append, List.length_singleton]; omega, hsp, hk4⟩, ?_⟩
  show (r.drop _).length < r.length
  rw [List.length_drop]
  omega

/-- A row of options and a number. -/
def OpsN (w : World) (base : Nat) (v : Value) (r : List Opt × Int) : Prop := ∃ A n c cells, v = .tuple #[.slice A n c, .int .i64 r.2] ∧ Sl w 2 A n cells ∧ Ops w (fun _ => True) cells r.1 ∧ n ≤ c ∧ ∀ a, A = some a → base ≤ a.block

theorem splitF_err : ∀ (f : Nat) (l : List UInt8) (acc : List Opt), (splitF f l acc).2 = 0 ∨ (splitF f l acc).2 = 3 ∨ (splitF f l acc).2 = 4
  | 0, _, _ => .inl rfl
  | f + 1, l, acc => by
    unfold splitF
    split
    · exact .inl rfl
    · split
      · exact .inr (.inl rfl)
      · split
        · exact .inr (.inr rfl)
        · exact splitF_err f _ _
theorem splitP_err (l : List UInt8) : (if (splitP l).2 ∈ [(3 : Int), 4] then (splitP l).2 else 0) = (splitP l).2 := by
  rcases splitF_err l.length l [] with h | h | h <;> (unfold splitP; rw [h]; decide)

theorem Split_ok (w : World) {A : Option Addr} {n c : Nat} {l : List UInt8} (hs : Sl w 1 A n (l.map vb)) (hn : n ≤ 100000) (hc : n ≤ c) :
    VC Tryd.prog 36 [.slice A n c] w (fun v w' => OpsN w' w.heap.size v (splitP l) ∧ Keep No w w') := by
  refine VC.of tt_ok Tryd.func36 rfl (by decide +kernel) (Nat.le_of_ble_eq_true rfl) ?_; (conv => whnf)
  refine (split_ok w hs hn hc).mono ?_
  rintro v w2 ⟨A', n', c', cells, E, rfl, h1, h2, h3, h4, hE, kp⟩
  (conv => whnf)
  refine VFill.by_ rfl ?_; (conv => whnf)
  refine ⟨fun w3 hb3 hk3 => ?_⟩; have hb3_lt := Blk.lt hb3; have hk3_sz := hk3.size; (conv => whnf)
  have kp := kp.keepNo hk3; have h1 := h1.keepNo hk3; have h2 := h2.keepNo hk3; have hE := hE.keepNo hk3
  refine (number_ok w3 hE (ks := [3, 4]) (Sl.ofBlk (n := 2) (size := 1) hb3 rfl) (by omega) (by decide)).mono ?_
  rintro v w6 ⟨rfl, rfl⟩
  (conv => whnf)
  exact ⟨⟨A', n', c', cells, congrArg (fun k => Value.tuple #[_, .int .i64 k]) (splitP_err l), h1, h2, h3, h4⟩, kp⟩

theorem refSplit_ok (w : World) {A : Option Addr} {n c : Nat} {l : List UInt8} (hs : Sl w 1 A n (l.map vb)) (hn : n ≤ 100000) (hc : n ≤ c) :
    VC Tryd.prog 40 [.slice A n c] w (fun v w' => OpsN w' w.heap.size v (splitP l) ∧ Keep No w w') := by
  have hl : l.length = n := by simpa using hs.len
  refine VC.of tt_ok Tryd.func40 rfl (by decide +kernel) (Nat.le_of_ble_eq_true rfl) ?_; (conv => whnf)
  refine VLoop.by_ tt_ok (S := List UInt8 × Option Addr × Nat × Nat × Option Addr × Nat × List Value × List Opt) (fun | (r, Ab, nb, cb, Al, cl, cells, acc) => [(0, .slice Ab nb cb), (4, .slice Al acc.length cl)])
    (fun | (r, Ab, nb, cb, Al, cl, cells, acc) => fun w' => Sl w 1 Ab nb (r.map vb) ∧ nb ≤ 100000 ∧ nb ≤ cb ∧ Own w' w.heap.size TOp 2 Al acc.length cl cells ∧ OpsT w' cells acc ∧ acc.length ≤ 32 ∧ splitF r.length r acc = splitP l ∧ Keep No w w') (fun | (r, _) => r.length)
    (l, A, n, c, none, 0, [], []) ⟨rfl, rfl, trivial⟩ ⟨hs, hn, hc, Own.nil _ _ _ _, Ops.nil _ _, by simp, rfl, Keep.refl _ _⟩ ?_
  rintro ⟨r, Ab, nb, cb, Al, cl, cells, acc⟩ w' ⟨hr, hnb, hcb, hown, hops, h32, hsp, kp⟩
  have hlr : r.length = nb := by simpa using hr.len
  (conv => whnf)
  refine VCmp.mk (fun h => ?_) (fun h => ?_) <;> (conv => whnf)
  rotate_left 1
  · rw [splitF_end (by omega)] at hsp
    rw [← hsp]
    exact ⟨⟨Al, acc.length, cl, cells, rfl, Sl.ofOwn hown, hops.mono (fun _ _ => trivial), hown.le, fun a ha => (hown.base_ ha).1⟩, kp⟩
  have b1 := (r.getD 1 0).toNat_lt
  refine VCmp.mk (fun h1 => ?_) (fun h1 => ?_) <;> (conv => whnf)
  · rw [splitF_long (by omega) (by omega)] at hsp
    rw [← hsp]
    exact ⟨⟨none, 0, 0, [], rfl, Sl.nil, Ops.nil _ _, Nat.le_refl _, (fun a ha => by cases ha)⟩, kp⟩
  have bad : splitBad r → OpsN w' w.heap.size (.tuple #[.slice none 0 0, .int .i64 4]) (splitP l) ∧ Keep No w w' := by
    intro hb
    rw [splitF_bad (by omega) (by omega) hb] at hsp
    rw [← hsp]
    exact ⟨⟨none, 0, 0, [], rfl, Sl.nil, Ops.nil _ _, Nat.le_refl _, (fun a ha => by cases ha)⟩, kp⟩
  refine VCmp.mk (fun h2 => ?_) (fun h2 => ?_) <;> (conv => whnf)
  · exact bad (by unfold splitBad; omega)
  refine VIdx.sl (hr.keepNo kp) (1) (by first | rfl | omega) (by omega) (fun b_ o_ hA_ hc_ => ?_); (conv => whnf); refine VLoad.by_ hc_ ?_; (conv => whnf)
  refine VCmp.mk (fun h3 => ?_) (fun h3 => ?_) <;> (conv => whnf)
  · exact bad (by unfold splitBad; omega)
  refine VIdx.sl (hr.keepNo kp) (1) (by first | rfl | omega) (by omega) (fun b_ o_ hA_ hc_ => ?_); (conv => whnf); refine VLoad.by_ hc_ ?_; (conv => whnf)
  refine VRes.i64 (by omega) ?_; (conv => whnf)
  refine VCmp.mk (fun h4 => ?_) (fun h4 => ?_) <;> (conv => whnf)
  · exact bad (by unfold splitBad; omega)
  have hgood : ¬ splitBad r := by unfold splitBad; omega
  rw [splitF_step (by omega) (by omega) hgood] at hsp
  refine VIdx.sl (hr.keepNo kp) (1) (by first | rfl | omega) (by omega) (fun b_ o_ hA_ hc_ => ?_); (conv => whnf); refine VLoad.by_ hc_ ?_; (conv => whnf)
  refine VRes.i64 (by omega) ?_; (conv => whnf)
  refine VDraw.by_ tt_ok rfl (.take 0 (.take 1 (.take 2 (.take 3 (.take 4 (.take 5 (.take 6 (.take 7 (.one 8 (.take 9 (.one 10 (.one 11 (.take 12 .done))))))))))))) (by decide +kernel) (fun x => Keep No w x) (fun x h1 h2 h3 h4 => kp.trans (Keep.ofHeap h1 h2 h3 h4)) (fun wd hd kd => ?_)
  have kp := kp.keepNo kd; have hown := hown.keepNo kd; have hops := hops.keepNo kd
  have b0 := (r.getD 0 0).toNat_lt
  (conv => whnf)
  refine VIdx.sl (hr) (0) (by first | rfl | omega) (by omega) (fun b_ o_ hA_ hc_ => ?_); (conv => whnf); refine VLoad.keep hc_ ?_; (conv => whnf)
  refine VRes.i64 (by omega) ?_; (conv => whnf)
  refine VCut.by_ 2 (r.getD 1 0).toNat rfl rfl (by omega) (by omega) ?_
  intro A2 hA2
  have hsc := (Sl.cut hr (l := 2) (h := (r.getD 1 0).toNat) (by omega) (by omega) hcb hA2).keepNo kp
  rw [show ((r.map vb).take ((r.getD 1 0).toNat * 1)).drop (2 * 1) = (firstO r).data.map vb from by rw [Nat.mul_one, Nat.mul_one, ← List.map_take, ← List.map_drop]; rfl] at hsc
  (conv => whnf)
  refine (copy_ok wd hsc (by omega)).mono ?_
  rintro v w2 ⟨A3, c3, rfl, ho3, hk2⟩
  have kp := kp.keepNo hk2; have hown := hown.keepNo hk2; have hops := hops.keepNo hk2
  (conv => whnf)
  refine VOwe.same kp ?_
  (conv => whnf)
  refine VFill.by_ rfl ?_; (conv => whnf)
  refine VFill.by_ rfl ?_; (conv => whnf)
  refine ⟨fun w3 hb3 hk3 => ?_⟩; have hb3_lt := Blk.lt hb3; have hk3_sz := hk3.size; (conv => whnf)
  have kp := kp.keepNo hk3; have hown := hown.keepNo hk3; have hops := hops.keepNo hk3; have ho3 := ho3.keepNo hk3
  refine VOwe.same kp ?_
  (conv => whnf)
  have hdl : (firstO r).data.length = (r.getD 1 0).toNat - 2 := by show ((r.take _).drop 2).length = _; rw [List.length_drop, List.length_take]; omega
  have hone : OpsT w3 [.int .i64 ((r.getD 0 0).toNat : Nat), .slice A3 ((r.getD 1 0).toNat - 2) c3] [firstO r] := Ops.one' hdl rfl ho3.le (Sl.ofOwn ho3) (fun a ha _ => ho3.ty ha)
  refine appOp (w0 := w) kp hown (Sl.ofBlk (n := 1) (size := 2) hb3 rfl) hone.cells1 (by omega) ?_
  intro A4 c4 w4 ho4 hk4 hkA
  (conv => whnf)
  refine VOwe.same hk4 ?_
  (conv => whnf)
  refine VReq.mk hcb ?_
  refine VCut.by_ (r.getD 1 0).toNat nb rfl rfl (by omega) (by omega) ?_
  intro A5 hA5
  have hsr := Sl.cut hr (l := (r.getD 1 0).toNat) (h := nb) (by omega) (Nat.le_refl _) hcb hA5
  rw [show ((r.map vb).take (nb * 1)).drop ((r.getD 1 0).toNat * 1) = (r.drop (r.getD 1 0).toNat).map vb from by rw [Nat.mul_one, Nat.mul_one, List.map_drop, List.take_of_length_le (by simp; omega)]] at hsr
  (conv => whnf)
  have hops4 : OpsT w4 (cells ++ [.int .i64 ((r.getD 0 0).toNat : Nat), .slice A3 ((r.getD 1 0).toNat - 2) c3]) (acc ++ [firstO r]) := OpsT.keep (Ops.append hops hone) hkA (fun i hi ⟨a, ha, e⟩ => (hi.ne (hown.ty ha) (by decide)) e.symm)
  refine ⟨(r.drop (r.getD 1 0).toNat, A5, nb - (r.getD 1 0).toNat, cb - (r.getD 1 0).toNat, A4, c4, _, acc ++ [firstO r]), ⟨rfl, by rw [List.length_append]; rfl, trivial⟩, ⟨hsr, by omega, by omega, by rw [List.length_append]; exact ho4, hops4, by rw [List.length_append, List.length_singleton]; omega, hsp, hk4⟩, ?_⟩
  show (r.drop _).length < r.length
  rw [List.length_drop]
  omega

end Go.Proofs.YtpofkhjkdkkajaaDoor.Pk
