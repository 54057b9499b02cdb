/-
  Options: a row of them in memory; packet's Options, split, Split, Same; the reference's.
-/
import Derived.Test.YtififgodhnelgaaP3
namespace Go.Proofs.Ytififgodhnelgaa
open Go V

abbrev TOp : TypeId := 42
abbrev TSOp : TypeId := 38
structure Opt where
  t : Int
  data : List UInt8
theorem Opt.ext_ {p q : Opt} (h1 : p.t = q.t) (h2 : p.data = q.data) : p = q := by cases p; cases q; simp_all
instance : DecidableEq Opt := fun p q => decidable_of_iff (p.t = q.t ∧ p.data = q.data) ⟨fun ⟨a, b⟩ => Opt.ext_ a b, fun h => by subst h; exact ⟨rfl, rfl⟩⟩

/-- These cells are those options; their data in blocks of X. -/
def Ops (w : World) (X : Nat → Prop) (cells : List Value) (os : List Opt) : Prop :=
  cells.length = os.length * 2 ∧ ∀ (i : Nat) (o : Opt), os[i]? = some o → ∃ A c, cells[i * 2]? = some (.int .i64 o.t) ∧ cells[i * 2 + 1]? = some (.slice A o.data.length c) ∧ o.data.length ≤ c ∧ Sl w 1 A o.data.length (o.data.map vb) ∧ ∀ a, A = some a → 0 < o.data.length → X a.block

theorem Ops.nil (w : World) (X : Nat → Prop) : Ops w X [] [] := ⟨rfl, fun i o h => by simp at h⟩
theorem Ops.keep {S X : Nat → Prop} {w w' : World} {cells : List Value} {os : List Opt} (h : Ops w X cells os) (k : Keep S w w') (hs : ∀ i, X i → ¬ S i) : Ops w' X cells os :=
  ⟨h.1, fun i o ho => by
    obtain ⟨A, c, h1, h2, h3, h4, h5⟩ := h.2 i o ho
    exact ⟨A, c, h1, h2, h3, h4.keepP k (fun a ha h0 => hs _ (h5 a ha h0)), h5⟩⟩
theorem Ops.keepNo {X : Nat → Prop} {w w' : World} {cells : List Value} {os : List Opt} (h : Ops w X cells os) (k : Keep No w w') : Ops w' X cells os := h.keep k (fun _ _ => id)
theorem Ops.mono {X Y : Nat → Prop} {w : World} {cells : List Value} {os : List Opt} (h : Ops w X cells os) (hs : ∀ i, X i → Y i) : Ops w Y cells os :=
  ⟨h.1, fun i o ho => by
    obtain ⟨A, c, h1, h2, h3, h4, h5⟩ := h.2 i o ho
    exact ⟨A, c, h1, h2, h3, h4, fun a ha h0 => hs _ (h5 a ha h0)⟩⟩
theorem Ops.append {X : Nat → Prop} {w : World} {c1 c2 : List Value} {o1 o2 : List Opt} (h : Ops w X c1 o1) (h' : Ops w X c2 o2) : Ops w X (c1 ++ c2) (o1 ++ o2) := by
  refine ⟨by rw [List.length_append, List.length_append, h.1, h'.1, Nat.add_mul], fun i o ho => ?_⟩
  by_cases hi : i < o1.length
  · rw [List.getElem?_append_left hi] at ho
    obtain ⟨A, c, e1, e2, r⟩ := h.2 i o ho
    have := h.1
    exact ⟨A, c, by rw [List.getElem?_append_left (by omega)]; exact e1, by rw [List.getElem?_append_left (by omega)]; exact e2, r⟩
  · rw [List.getElem?_append_right (by omega)] at ho
    obtain ⟨A, c, e1, e2, r⟩ := h'.2 _ o ho
    have := h.1
    exact ⟨A, c, by rw [List.getElem?_append_right (by omega), show i * 2 - c1.length = (i - o1.length) * 2 from by omega]; exact e1,
      by rw [List.getElem?_append_right (by omega), show i * 2 + 1 - c1.length = (i - o1.length) * 2 + 1 from by omega]; exact e2, r⟩
theorem Ops.one_ {X : Nat → Prop} {w : World} {A : Option Addr} {c : Nat} {o : Opt} (h1 : o.data.length ≤ c) (h2 : Sl w 1 A o.data.length (o.data.map vb)) (h3 : ∀ a, A = some a → 0 < o.data.length → X a.block) :
    Ops w X [.int .i64 o.t, .slice A o.data.length c] [o] :=
  ⟨rfl, fun i p hp => by
    match i, hp with
    | 0, hp =>
      obtain rfl : o = p := by simpa using hp
      exact ⟨A, c, rfl, rfl, h1, h2, h3⟩
    | i + 1, hp => simp at hp⟩
theorem Ops.one' {X : Nat → Prop} {w : World} {A : Option Addr} {n c : Nat} {t : Int} {o : Opt} (hn : o.data.length = n) (ht : o.t = t) (h1 : n ≤ c) (h2 : Sl w 1 A n (o.data.map vb)) (h3 : ∀ a, A = some a → 0 < n → X a.block) :
    Ops w X [.int .i64 t, .slice A n c] [o] := by
  subst hn; subst ht
  exact Ops.one_ h1 h2 h3
theorem Ops.cells1 {X : Nat → Prop} {w : World} {cells : List Value} {os : List Opt} (h : Ops w X cells os) : ∀ u ∈ cells, u.oneCell' = true := by
  intro u hu
  obtain ⟨i, hi⟩ := List.getElem?_of_mem hu
  have hlt : i < cells.length := by
    rcases Nat.lt_or_ge i cells.length with h | h
    · exact h
    · rw [List.getElem?_eq_none h] at hi; cases hi
  have hl := h.1
  obtain ⟨A, c, h1, h2, _⟩ := h.2 (i / 2) _ (List.getElem?_eq_getElem (by omega))
  have hh : i = i / 2 * 2 ∨ i = i / 2 * 2 + 1 := by omega
  rcases hh with e | e
  · rw [← e, hi] at h1; cases h1; rfl
  · rw [← e, hi] at h2; cases h2; rfl

/-- One option of a row in memory. -/
theorem Ops.at_ {X : Nat → Prop} {w : World} {A : Option Addr} {n : Nat} {cells : List Value} {os : List Opt} (ho : Ops w X cells os) (hs : Sl w 2 A n cells) {k : Nat} {x : Opt} (hx : os[k]? = some x) :
    ∃ b o A1 c1, A = some ⟨b, o, none⟩ ∧ k < n ∧ w.cell? ⟨b, o + k * 2, none⟩ = some (.int .i64 x.t) ∧ w.cell? ⟨b, o + k * 2 + 1, none⟩ = some (.slice A1 x.data.length c1) ∧ x.data.length ≤ c1 ∧ Sl w 1 A1 x.data.length (x.data.map vb) := by
  obtain ⟨A1, c1, h1, h2, h3, h4, _⟩ := ho.2 k x hx
  have hlt : k < os.length := by
    rcases Nat.lt_or_ge k os.length with h | h
    · exact h
    · rw [List.getElem?_eq_none h] at hx; cases hx
  have hl := ho.1
  have hl2 := hs.1
  obtain ⟨b, o, hA, hc⟩ := hs.at_ (by omega)
  exact ⟨b, o, A1, c1, hA, by omega, hc _ _ h1, by rw [Nat.add_assoc]; exact hc _ _ h2, h3, h4⟩
theorem Ops.len {X : Nat → Prop} {w : World} {A : Option Addr} {n : Nat} {cells : List Value} {os : List Opt} (ho : Ops w X cells os) (hs : Sl w 2 A n cells) : os.length = n := by
  have := ho.1
  have := hs.1
  omega

/-! ### Options' bytes -/
def Opt.good (o : Opt) : Prop := 0 ≤ o.t ∧ o.t ≤ 255 ∧ o.data.length ≤ 253
instance (o : Opt) : Decidable o.good := inferInstanceAs (Decidable (_ ∧ _ ∧ _))
def Opt.enc (o : Opt) : List UInt8 := [UInt8.ofNat o.t.toNat, UInt8.ofNat (o.data.length + 2)] ++ o.data
def encOs (os : List Opt) : List UInt8 := os.flatMap Opt.enc
def optsP (os : List Opt) : List UInt8 × Int := if 32 < os.length then ([], 3) else if ∀ o ∈ os, o.good then (encOs os, 0) else ([], 1)

theorem encOs_snoc (os : List Opt) (k : Nat) (x : Opt) (h : os[k]? = some x) : encOs (os.take (k + 1)) = encOs (os.take k) ++ x.enc := by
  rw [List.take_add_one, h]
  simp [encOs]
theorem encOs_len (os : List Opt) (h : ∀ o ∈ os, o.good) : (encOs os).length ≤ 255 * os.length := by
  induction os with
  | nil => simp [encOs]
  | cons x r ih =>
    have h1 : encOs (x :: r) = x.enc ++ encOs r := by simp [encOs]
    have h2 := ih (fun o ho => h o (by simp [ho]))
    have h3 := h x (by simp)
    have h4 : x.enc.length = 2 + x.data.length := by simp [Opt.enc]; omega
    unfold Opt.good at h3
    rw [h1, List.length_append, List.length_cons]
    omega

/-- Tests, places and loads of one element of a row of options. -/
theorem options_ok (w : World) {X : Nat → Prop} {A : Option Addr} {n c : Nat} {cells : List Value} {os : List Opt} (hs : Sl w 2 A n cells) (ho : Ops w X cells os) (hn : n ≤ 1000000) :
    VC Try.prog 22 [.slice A n c] w (fun v w' => BytesN w' w.heap.size v (optsP os) ∧ Keep No w w') := by
  have hl := ho.len hs
  refine VC.of tt_ok Try.func22 rfl (by decide +kernel) (Nat.le_of_ble_eq_true rfl) ?_; (conv => whnf)
  refine VCmp.mk (fun h => ?_) (fun h => ?_) <;> (conv => whnf)
  · have h0 : optsP os = ([], 3) := by unfold optsP; rw [if_pos (by omega)]
    rw [h0]
    exact ⟨⟨none, 0, rfl, Own.nil _ _ _ _⟩, Keep.refl _ _⟩
  have h32 : optsP os = if ∀ o ∈ os, o.good then (encOs os, 0) else ([], 1) := by unfold optsP; rw [if_neg (by omega)]
  have hbad : ∀ (k : Nat) (x : Opt), os[k]? = some x → ¬ x.good → optsP os = ([], 1) := fun k x hx hb => by
    rw [h32, if_neg (fun hh => hb (hh x (List.mem_of_getElem? hx)))]
  refine VLoop.by_ tt_ok (S := Nat × Option Addr × Nat) (fun | (k, A', c') => [(10, .slice A n c), (11, .int .i64 n), (12, .int .i64 k), (4, .slice A' (encOs (os.take k)).length c')])
    (fun | (k, A', c') => fun w' => k ≤ n ∧ (∀ o ∈ os.take k, o.good) ∧ Own w' w.heap.size T8 1 A' (encOs (os.take k)).length c' ((encOs (os.take k)).map vb) ∧ Keep No w w') (fun | (k, _, _) => n - k)
    (0, none, 0) ⟨rfl, rfl, rfl, rfl, trivial⟩ ⟨by omega, by simp, Own.nil _ _ _ _, Keep.refl _ _⟩ ?_
  rintro ⟨k, A', c'⟩ w' ⟨hk, hg, hown, kp⟩
  (conv => whnf)
  refine VCmp.mk (fun h => ?_) (fun h => ?_) <;> (conv => whnf)
  · obtain ⟨x, hx⟩ : ∃ x, os[k]? = some x := ⟨_, List.getElem?_eq_getElem (by omega)⟩
    obtain ⟨b, o, A1, c1, hA, _, e0, e1, hc1, hs1⟩ := ho.at_ hs hx
    refine VIdx.mul k rfl (by omega) hA ?_
    (conv => whnf)
    refine VLoads.two (kp.cell e0 id) (kp.cell e1 id) ?_
    (conv => whnf)
    refine ⟨fun w1 hb1 hk1 => ?_⟩; have hb1_lt := Blk.lt hb1; have hk1_sz := hk1.size; (conv => whnf); (refine VReq.mk ⟨rfl, (fun u hu => List.all_eq_true.mp (show List.all _ (fun u => u.oneCell') = true by rfl) u hu)⟩ ?_; (conv => whnf)); refine VStore.all hb1 rfl ?_; intro w2 hb2 hk2 hk2_sz; have hk2 := Keep.fresh_ hk1 hk2 (Nat.le_refl _); (conv => whnf)
    have kp := kp.keepNo hk2; have hown := hown.keepNo hk2
    (repeat' (first | (refine VCmp.mk (fun h => ?_) (fun h => ?_) <;> first | (exfalso; omega) | (conv => whnf)) | (refine VLoad.by_ ((hb2).cell 0) ?_; conv => whnf) | (refine VLoad.by_ ((hb2).cell 1) ?_; conv => whnf) | (refine VLoad.by_ ((hb2).cell 2) ?_; conv => whnf) | (refine VLoad.by_ ((hb2).cell 3) ?_; conv => whnf)))
    rotate_right 1
    · have hgx : x.good := by unfold Opt.good; omega
      have hlk := encOs_len _ hg
      have hlt := List.length_take_le k os
      have hsn := encOs_snoc os k x hx
      have hL : (encOs (os.take (k + 1))).length = (encOs (os.take k)).length + 2 + x.data.length := by rw [hsn, List.length_append]; simp [Opt.enc]; omega
      refine VRes.byte (N := x.t.toNat) (by omega) ?_
      (conv => whnf)
      refine VLoad.by_ ((hb2).cell 1) ?_; (conv => whnf)
      refine VRes.i64 (by omega) ?_; (conv => whnf)
      refine VRes.byte (N := x.data.length + 2) (by omega) ?_
      (conv => whnf)
      refine VFill.by_ rfl ?_; (conv => whnf)
      refine ⟨fun w3 hb3 hk3 => ?_⟩; have hb3_lt := Blk.lt hb3; have hk3_sz := hk3.size; (conv => whnf)
      have kp := kp.keepNo hk3; have hown := hown.keepNo hk3; have hb2 := hb2.keepNo hk3
      refine app8 (w0 := w) (ys := [UInt8.ofNat x.t.toNat, UInt8.ofNat (x.data.length + 2)]) kp hown (Sl.ofBlk (n := 2) (size := 1) hb3 rfl) (by omega) ?_
      intro A4 c4 w4 ho4 hk4 hkA _
      have hb2 := hb2.keep hkA (fun ⟨a, ha, e⟩ => hown.type_ne ha hb2 (by decide) e)
      (conv => whnf)
      refine VLoad.by_ ((hb2).cell 1) ?_; (conv => whnf)
      refine app8 (w0 := w) hk4 ho4 (hs1.keepNo hk4) (by omega) ?_
      intro A5 c5 w5 ho5 hk5 _ _
      (conv => whnf)
      refine VRes.i64 (by omega) ?_; (conv => whnf)
      refine ⟨(k + 1, A5, c5), ⟨rfl, rfl, rfl, by rw [hL]; rfl, trivial⟩, ⟨by omega, ?_, ?_, hk5⟩, by dsimp only; omega⟩
      · intro y hy
        rw [List.take_add_one, hx] at hy
        rcases List.mem_append.1 hy with h1 | h1
        · exact hg y h1
        · obtain rfl : y = x := by simpa using h1
          exact hgx
      · rw [hL, hsn]
        simpa [Opt.enc] using ho5
    all_goals
      rw [hbad k x hx (by unfold Opt.good; omega)]
      exact ⟨⟨none, 0, rfl, Own.nil _ _ _ _⟩, kp⟩
  · have hkn : k = n := by omega
    subst hkn
    rw [List.take_of_length_le (by omega)] at hown hg
    rw [h32, if_pos hg]
    rw [List.take_of_length_le (by omega)]
    exact ⟨⟨A', c', rfl, hown⟩, kp⟩

theorem refOptions_ok (w : World) {X : Nat → Prop} {A : Option Addr} {n c : Nat} {cells : List Value} {os : List Opt} (hs : Sl w 2 A n cells) (ho : Ops w X cells os) (hn : n ≤ 1000000) :
    VC Try.prog 24 [.slice A n c] w (fun v w' => BytesN w' w.heap.size v (optsP os) ∧ Keep No w w') := by
  have hl := ho.len hs
  refine VC.of tt_ok Try.func24 rfl (by decide +kernel) (Nat.le_of_ble_eq_true rfl) ?_; (conv => whnf)
  refine VCmp.mk (fun h => ?_) (fun h => ?_) <;> (conv => whnf)
  · have h0 : optsP os = ([], 3) := by unfold optsP; rw [if_pos (by omega)]
    rw [h0]
    exact ⟨⟨none, 0, rfl, Own.nil _ _ _ _⟩, Keep.refl _ _⟩
  have h32 : optsP os = if ∀ o ∈ os, o.good then (encOs os, 0) else ([], 1) := by unfold optsP; rw [if_neg (by omega)]
  have hbad : ∀ (k : Nat) (x : Opt), os[k]? = some x → ¬ x.good → optsP os = ([], 1) := fun k x hx hb => by
    rw [h32, if_neg (fun hh => hb (hh x (List.mem_of_getElem? hx)))]
  refine VLoop.by_ tt_ok (S := Nat × Option Addr × Nat) (fun | (k, A', c') => [(0, .slice A n c), (5, .int .i64 k), (4, .slice A' (encOs (os.take k)).length c')])
    (fun | (k, A', c') => fun w' => k ≤ n ∧ (∀ o ∈ os.take k, o.good) ∧ Own w' w.heap.size T8 1 A' (encOs (os.take k)).length c' ((encOs (os.take k)).map vb) ∧ Keep No w w') (fun | (k, _, _) => n - k)
    (0, none, 0) ⟨rfl, rfl, rfl, trivial⟩ ⟨by omega, by simp, Own.nil _ _ _ _, Keep.refl _ _⟩ ?_
  rintro ⟨k, A', c'⟩ w' ⟨hk, hg, hown, kp⟩
  (conv => whnf)
  refine VCmp.mk (fun h => ?_) (fun h => ?_) <;> (conv => whnf)
  · obtain ⟨x, hx⟩ : ∃ x, os[k]? = some x := ⟨_, List.getElem?_eq_getElem (by omega)⟩
    obtain ⟨b, o, A1, c1, hA, hkn, e0, e1, hc1, hs1⟩ := ho.at_ hs hx
    have d0 := kp.cell e0 id
    have d1 := kp.cell e1 id
    (repeat' (first | (refine VCmp.mk (fun h => ?_) (fun h => ?_) <;> first | (exfalso; omega) | (conv => whnf)) | (refine VIdx.mul k rfl hkn hA ?_; conv => whnf) | (refine VLoad.by_ d0 ?_; conv => whnf) | (refine VLoad.by_ d1 ?_; conv => whnf)))
    rotate_right 1
    · have hgx : x.good := by unfold Opt.good; omega
      have hlk := encOs_len _ hg
      have hlt := List.length_take_le k os
      have hsn := encOs_snoc os k x hx
      have hL : (encOs (os.take (k + 1))).length = (encOs (os.take k)).length + 2 + x.data.length := by rw [hsn, List.length_append]; simp [Opt.enc]; omega
      refine VDraw.by_ tt_ok rfl (.take 0 (.take 1 (.take 2 (.take 3 (.take 4 (.take 5 (.take 6 (.take 7 (.take 8 (.take 9 (.take 10 (.take 11 (.take 12 (.take 13 (.take 14 (.one 15 (.one 16 (.take 17 .done)))))))))))))))))) (by decide +kernel) (fun x => Keep No w x) (fun x h1 h2 h3 h4 => kp.trans (Keep.ofHeap h1 h2 h3 h4)) (fun wd hd kd => ?_)
      have kp := kp.keepNo kd; have hown := hown.keepNo kd
      (conv => whnf)
      (repeat' (first | (refine VIdx.mul k rfl hkn hA ?_; conv => whnf) | (refine VLoad.keep e0 ?_; conv => whnf) | (refine VLoad.keep e1 ?_; conv => whnf) | (refine VRes.i64 (by omega) ?_; conv => whnf)))
      refine VRes.byte (N := x.t.toNat) (by omega) ?_
      (conv => whnf)
      (repeat' (first | (refine VIdx.mul k rfl hkn hA ?_; conv => whnf) | (refine VLoad.keep e0 ?_; conv => whnf) | (refine VLoad.keep e1 ?_; conv => whnf) | (refine VRes.i64 (by omega) ?_; conv => whnf)))
      refine VRes.byte (N := x.data.length + 2) (by omega) ?_
      (conv => whnf)
      refine VFill.by_ rfl ?_; (conv => whnf)
      refine ⟨fun w3 hb3 hk3 => ?_⟩; have hb3_lt := Blk.lt hb3; have hk3_sz := hk3.size; (conv => whnf)
      have kp := kp.keepNo hk3; have hown := hown.keepNo hk3
      refine VOwe.same kp ?_
      (conv => whnf)
      refine app8 (w0 := w) (ys := [UInt8.ofNat x.t.toNat, UInt8.ofNat (x.data.length + 2)]) kp hown (Sl.ofBlk (n := 2) (size := 1) hb3 rfl) (by omega) ?_
      intro A4 c4 w4 ho4 hk4 hkA _
      (conv => whnf)
      refine VOwe.same hk4 ?_
      (conv => whnf)
      refine VIdx.mul k rfl hkn hA ?_
      (conv => whnf)
      refine VLoad.by_ (hk4.cell e1 id) ?_
      (conv => whnf)
      refine app8 (w0 := w) hk4 ho4 (hs1.keepNo hk4) (by omega) ?_
      intro A5 c5 w5 ho5 hk5 _ _
      (conv => whnf)
      refine VRes.i64 (by omega) ?_; (conv => whnf)
      refine ⟨(k + 1, A5, c5), ⟨rfl, rfl, by rw [hL]; rfl, trivial⟩, ⟨by omega, ?_, ?_, hk5⟩, by dsimp only; omega⟩
      · intro y hy
        rw [List.take_add_one, hx] at hy
        rcases List.mem_append.1 hy with h1 | h1
        · exact hg y h1
        · obtain rfl : y = x := by simpa using h1
          exact hgx
      · rw [hL, hsn]
        simpa [Opt.enc] using ho5
    all_goals
      rw [hbad k x hx (by unfold Opt.good; omega)]
      exact ⟨⟨none, 0, rfl, Own.nil _ _ _ _⟩, kp⟩
  · have hkn : k = n := by omega
    subst hkn
    rw [List.take_of_length_le (by omega)] at hown hg
    rw [h32, if_pos hg]
    rw [List.take_of_length_le (by omega)]
    exact ⟨⟨A', c', rfl, hown⟩, kp⟩
end Go.Proofs.Ytififgodhnelgaa
