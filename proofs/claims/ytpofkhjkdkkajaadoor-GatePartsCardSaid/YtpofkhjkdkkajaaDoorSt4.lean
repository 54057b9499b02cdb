/-
  Package stuff: Feed gives the frames that bytes end.
-/
import Derived.Test.YtpofkhjkdkkajaaDoorSt3
namespace Go.Proofs.YtpofkhjkdkkajaaDoor
open Go V

/-- Where the frames' bytes may lie: in blocks of the deframer's elder buffers, or in new ones; not in its present ones. -/
def frX (w w' : World) (d : Nat) (A A' : Option Addr) (k : Nat) : Prop := (ownS A k ∨ w.heap.size ≤ k) ∧ k < w'.heap.size ∧ k ≠ d ∧ ¬ ownS A' k ∧ Ty w' k T8

structure FeedSt (w : World) (d : Nat) (A : Option Addr) (s : Df) (A' Ao : Option Addr) (no co : Nat) (vals : List Value) (s' : Df) (fs : List (List UInt8)) (w' : World) : Prop where
  df : DfA w' d A' s'
  out : Own w' w.heap.size TS8 1 Ao no co vals
  len : no = vals.length
  els : Els w' (frX w w' d A A') vals fs
  keep : Keep (fpt d A) w w'
  buf : ∀ a, A' = some a → ownS A a.block ∨ w.heap.size ≤ a.block

theorem FeedSt.no_len {w : World} {d : Nat} {A : Option Addr} {s : Df} {A' Ao : Option Addr} {no co : Nat} {vals : List Value} {s' : Df} {fs : List (List UInt8)} {w' : World} (h : FeedSt w d A s A' Ao no co vals s' fs w') : no = fs.length := by
  rw [h.len, h.els.1]

/-- Steps that change the deframer's own blocks, and keep its buffer's. -/
theorem FeedSt.set {w : World} {d : Nat} {A : Option Addr} {s : Df} {A' Ao : Option Addr} {no co : Nat} {vals : List Value} {s' : Df} {fs : List (List UInt8)} {w' : World} (h : FeedSt w d A s A' Ao no co vals s' fs w') (hd : d < w.heap.size)
    {A2 : Option Addr} {s2 : Df} {w2 : World} (hdf : DfA w2 d A2 s2) (hk : Keep (fpt d A') w' w2) (hA2 : ∀ a, A2 = some a → ownS A' a.block ∨ w'.heap.size ≤ a.block) : FeedSt w d A s A2 Ao no co vals s2 fs w2 := by
  obtain ⟨hdf0, hout, hlen, hels, hkeep, hbuf⟩ := h
  obtain ⟨n0, c0, hb0, ho0⟩ := hdf0
  have hnf : ∀ i, frX w w' d A A' i → ¬ fpt d A' i := by
    rintro i ⟨_, _, h3, h4, _⟩ (h | h)
    · exact h3 h
    · exact h4 h
  refine ⟨hdf, hout.keep hk ?_, hlen, ?_, ?_, ?_⟩
  · rintro a ha (h | ⟨a0, h0, h⟩)
    · exact hout.type_ne ha hb0 (by decide) h
    · exact (Ty.ne (hout.ty ha) (ho0.ty h0) (by decide)) h.symm
  · refine (hels.keep hk hnf).mono ?_
    rintro i ⟨h1, h2, h3, h4, h5⟩
    refine ⟨h1, Nat.lt_of_lt_of_le h2 hk.size, h3, ?_, h5.keep hk (hnf i ⟨h1, h2, h3, h4, h5⟩)⟩
    rintro ⟨a, ha, rfl⟩
    rcases hA2 a ha with h | h
    · exact h4 h
    · omega
  · refine ⟨hk.os.trans hkeep.os, hk.tape.trans hkeep.tape, hk.output.trans hkeep.output, Nat.le_trans hkeep.size hk.size, fun i hi hn => ?_⟩
    rw [hk.block i (Nat.lt_of_lt_of_le hi hkeep.size) ?_, hkeep.block i hi hn]
    rintro (h | ⟨a, ha, rfl⟩)
    · exact hn (.inl h)
    · rcases hbuf a ha with h | h
      · exact hn (.inr h)
      · omega
  · intro a ha
    rcases hA2 a ha with ⟨a0, h0, h⟩ | h
    · rcases hbuf a0 h0 with h1 | h1
      · exact .inl (h ▸ h1)
      · exact .inr (by omega)
    · exact .inr (Nat.le_trans hkeep.size h)

theorem Own.le_cap {w : World} {base e size n c : Nat} {A : Option Addr} {xs : List Value} (h : Own w base e size A n c xs) : n ≤ c := by
  rcases h.2 with ⟨hv, h0⟩ | ⟨g, cap, cur, hv, _, _, hc, _⟩
  · omega
  · have : c = cap := by injection hv
    omega

/-- A frame is told. -/
theorem FeedSt.push {w : World} {d : Nat} {A : Option Addr} {s : Df} {Ao : Option Addr} {no co : Nat} {vals : List Value} {s' : Df} {fs : List (List UInt8)} {w' : World} (h : FeedSt w d A s none Ao no co vals s' fs w')
    {A1 : Option Addr} {n1 c1 : Nat} {f : List UInt8} (hfr : Own w' 0 T8 1 A1 n1 c1 (f.map vb)) (hA1 : ∀ a, A1 = some a → (ownS A a.block ∨ w.heap.size ≤ a.block) ∧ a.block ≠ d)
    {w3 w4 : World} {Ao' : Option Addr} {c' : Nat} (hk3 : Keep No w' w3) (ho : Own w4 w.heap.size TS8 1 Ao' (no + 1) c' (vals ++ [.slice A1 n1 c1])) (hk4 : Keep (ownS Ao) w3 w4) :
    FeedSt w d A s none Ao' (no + 1) c' (vals ++ [.slice A1 n1 c1]) s' (fs ++ [f]) w4 := by
  have hn : f.length = n1 := by simpa using (Sl.ofOwn hfr).len
  obtain ⟨hdf, hout, hlen, hels, hkeep, hbuf⟩ := h
  have hdf' := hdf
  obtain ⟨n0, c0, hb0, ho0⟩ := hdf'
  have hout3 := Own.keepNo hout hk3
  have hfr3 := Own.keepNo hfr hk3
  have hx3 : ∀ i, frX w w' d A none i → ¬ ownS Ao i := by
    rintro i ⟨_, _, _, _, h5⟩ ⟨a, ha, rfl⟩
    exact Ty.ne (hout.ty ha) h5 (by decide) rfl
  refine ⟨(hdf.keepNo hk3).keep hk4 ?_, ho, by simp [hlen], ?_, ?_, fun a ha => by cases ha⟩
  · rintro i (rfl | ⟨a, ha, _⟩)
    · rintro ⟨a, ha, h⟩
      exact hout3.type_ne ha (hb0.keep hk3 id) (by decide) h
    · cases ha
  · refine Els.snoc ?_ ?_
    · refine ((hels.keep hk3 (fun _ _ => id)).keep hk4 hx3).mono ?_
      rintro i ⟨h1, h2, h3, h4, h5⟩
      exact ⟨h1, Nat.lt_of_lt_of_le h2 (Nat.le_trans hk3.size hk4.size), h3, h4, (h5.keep hk3 id).keep hk4 (hx3 i ⟨h1, h2, h3, h4, h5⟩)⟩
    · have hne : ∀ a, A1 = some a → ¬ ownS Ao a.block := by
        rintro a ha ⟨a0, h0, h⟩
        exact Ty.ne (hout3.ty h0) (hfr3.ty ha) (by decide) h
      have hfr4 := hfr3.keep hk4 hne
      refine ⟨A1, c1, by rw [hn], by rw [hn]; exact Own.le_cap hfr4, by rw [hn]; exact Sl.ofOwn hfr4, ?_⟩
      intro a ha _
      exact ⟨(hA1 a ha).1, (hfr4.base_ ha).2, (hA1 a ha).2, (fun ⟨_, h, _⟩ => by cases h), hfr4.ty ha⟩
  · refine ⟨hk4.os.trans (hk3.os.trans hkeep.os), hk4.tape.trans (hk3.tape.trans hkeep.tape), hk4.output.trans (hk3.output.trans hkeep.output), Nat.le_trans hkeep.size (Nat.le_trans hk3.size hk4.size), fun i hi hn => ?_⟩
    have l1 := hkeep.size
    have l2 := hk3.size
    rw [hk4.block i (by omega) ?_, hk3.block i (by omega) id, hkeep.block i hi hn]
    rintro ⟨a, ha, rfl⟩
    have := (hout.base_ ha).1
    omega

theorem Df.feed_len (s : Df) (l : List UInt8) : (s.feed l).2.length ≤ l.length := by
  induction l generalizing s with
  | nil => simp [Df.feed]
  | cons x l ih =>
    simp only [Df.feed, List.length_append, List.length_cons]
    have := ih (s.step x).1
    have h1 : (s.step x).2.length ≤ 1 := by
      unfold Df.step
      split
      · unfold Df.out
        dsimp only
        split <;> simp
      · simp
    omega

theorem feed_okE (w : World) {d : Nat} {A : Option Addr} {s : Df} {D : Nat} {B : Option Addr} {m cB : Nat} {l : List UInt8} (hdf : DfA w d A s) (hok : s.Ok D) (hs : Sl w 1 B m (l.map vb)) (hsep : ∀ a, B = some a → 0 < m → ¬ fpt d A a.block)
    (_ : ∀ a, B = some a → 0 < m → a.block < w.heap.size) (hD : D + m ≤ 4611686018427387904) (hm : m ≤ 1099511627776) :
    VC Tryd.prog 20 [.pointer (some ⟨d, 0, none⟩), .slice B m cB] w (fun v w' => ∃ A' Ao no co vals, v = .slice Ao no co ∧ FeedSt w d A s A' Ao no co vals (s.feed l).1 (s.feed l).2 w') := by
  have hl : l.length = m := by simpa using hs.len
  have hdlt : d < w.heap.size := hdf.lt d (.inl rfl)
  obtain ⟨n0, c0, hb0, ho0⟩ := hdf
  have hm0 := hok.m0
  refine VC.of tt_ok Tryd.func20 rfl (by decide +kernel) (Nat.le_of_ble_eq_true rfl) ?_; (conv => whnf)
  refine VLoad.by_ (hb0.cell 1) ?_
  (conv => whnf)
  refine VCmp.mk (fun h => ?_) (fun h => ?_) <;> first | (exfalso; omega) | (conv => whnf)
  refine VLoop.by_ tt_ok (S := Nat × Option Addr × Option Addr × Nat × Nat × List Value) (fun | (k, _, Ao, no, co, _) => [(0, .pointer (some ⟨d, 0, none⟩)), (5, .slice Ao no co), (19, .slice B m cB), (20, .int .i64 m), (21, .int .i64 k)])
    (fun | (k, A', Ao, no, co, vals) => fun w' => k ≤ m ∧ FeedSt w d A s A' Ao no co vals (s.feed (l.take k)).1 (s.feed (l.take k)).2 w') (fun | (k, _) => m - k)
    (0, A, none, 0, 0, []) ⟨rfl, rfl, rfl, rfl, rfl, trivial⟩ ⟨Nat.zero_le _, ⟨⟨n0, c0, hb0, ho0⟩, Own.nil _ _ _ _, rfl, Els.nil _ _, Keep.refl _ _, fun a ha => .inl ⟨a, ha, rfl⟩⟩⟩ ?_
  rintro ⟨k, A', Ao, no, co, vals⟩ w' ⟨hk, hst⟩
  have hokk := Df.feed_ok' hok (l.take k)
  have htl : (l.take k).length = k := by rw [List.length_take]; omega
  rw [htl] at hokk
  (conv => whnf)
  refine VCmp.mk (fun h => ?_) (fun h => ?_) <;> (conv => whnf)
  rotate_left
  · have hkm : k = m := by omega
    subst hkm
    rw [List.take_of_length_le (by omega)] at hst
    exact ⟨A', Ao, no, co, vals, rfl, hst⟩
  obtain ⟨x, hx⟩ : ∃ x, l[k]? = some x := ⟨_, List.getElem?_eq_getElem (by omega)⟩
  have hsn : s.feed (l.take (k + 1)) = (((s.feed (l.take k)).1.step x).1, (s.feed (l.take k)).2 ++ ((s.feed (l.take k)).1.step x).2) := by
    rw [List.take_add_one, hx]; exact Df.feed_snoc _ _ _
  have hfl := Df.feed_len s (l.take k)
  rw [htl] at hfl
  have hsn1 := congrArg Prod.fst hsn
  have hsn2 := congrArg Prod.snd hsn
  dsimp only at hsn1 hsn2
  generalize (s.feed (l.take k)).1 = t at hst hokk hsn1 hsn2
  generalize (s.feed (l.take k)).2 = fs at hst hsn1 hsn2 hfl
  clear hsn
  obtain ⟨b, o, hBe, hc⟩ := (hs.keepP hst.keep (fun a ha h0 => hsep a ha h0)).at_ (by omega)
  refine VIdx.one k rfl (by omega) hBe ?_
  (conv => whnf)
  refine VLoad.by_ (hc k (vb x) (by simp [hx])) ?_
  (conv => whnf)
  have hst0 := hst
  obtain ⟨⟨n1, c1, hb1, ho1⟩, hout, hlen, hels, hkeep, hbuf⟩ := hst
  have hbl : t.b.length = n1 := by simpa using (Sl.ofOwn ho1).len
  have hnb := hokk.b
  have hnm := hokk.most
  -- the round's end
  have fin : ∀ (w2 : World) (A2 : Option Addr) (s2 : Df), (t.step x) = (s2, []) → FeedSt w d A s A2 Ao no co vals s2 fs w2 → FeedSt w d A s A2 Ao no co vals (s.feed (l.take (k + 1))).1 (s.feed (l.take (k + 1))).2 w2 := by
    intro w2 A2 s2 he h2
    rw [hsn1, hsn2, he, List.append_nil]
    exact h2
  refine VCmp.mk (fun h2 => ?_) (fun h2 => ?_) <;> (conv => whnf)
  · have hx7 : x = 0x7e := UInt8.toNat_inj.1 (by have : (0x7e : UInt8).toNat = 126 := rfl; omega)
    have hstep : t.step x = (t.fin, t.out) := by unfold Df.step; rw [if_pos hx7]
    refine (end_ok w' t hb1 (by have := hokk.d; omega)).mono ?_
    rintro v w2 ⟨rfl, hb2, hk2⟩
    have hdf2 : DfA w2 d none t.fin := ⟨0, 0, hb2, Own.nil _ _ _ _⟩
    have hst2 := hst0.set hdlt hdf2 (hk2.mono (fun _ _ h => .inl h)) (fun a ha => by cases ha)
    have hout' : t.out = if (!(t.long || t.esc) && decide (0 < n1)) = true then [t.b] else [] := by unfold Df.out; rw [hbl]
    cases hbad : (!(t.long || t.esc) && decide (0 < n1)) with
    | false =>
      rw [hbad] at hout'
      (conv => whnf)
      refine VRes.i64 (by omega) ?_
      (conv => whnf)
      exact ⟨(k + 1, none, Ao, no, co, vals), ⟨rfl, rfl, rfl, rfl, rfl, trivial⟩, ⟨by omega, fin w2 none t.fin (by rw [hstep, hout']; rfl) hst2⟩, by dsimp only; omega⟩
    | true =>
      rw [hbad] at hout'
      have hn0 : 0 < n1 := by
        rw [Bool.and_eq_true] at hbad
        exact of_decide_eq_true hbad.2
      (conv => whnf)
      refine VFill.by_ rfl ?_
      (conv => whnf)
      refine ⟨fun w3 hb3 hk3 => ?_⟩
      (conv => whnf)
      have hout3 := Own.keepNo hst2.out hk3
      have hno := hst2.no_len
      refine VApp.own tt_ok (it := ty57) (ei := ty27) rfl rfl rfl (size := 1) rfl rfl (by omega) hout3 (ys := [.slice A' n1 c1]) (Sl.ofBlk (n := 1) (size := 1) hb3 rfl) (by simp [Value.oneCell']) (by show (no + 1) * 24 ≤ _; omega) (by omega) (by have := hst2.keep.size; have := hk3.size; omega) ?_
      intro Ao' c' w4 ho4 hk4 _
      (conv => whnf)
      refine VRes.i64 (by omega) ?_
      (conv => whnf)
      have hfr : Own w2 0 T8 1 A' n1 c1 (t.b.map vb) := ho1.keep hk2 (fun a ha h => ho1.type_ne ha hb1 (by decide) h)
      have hst4 := hst2.push hfr (fun a ha => ⟨hbuf a ha, fun h => ho1.type_ne ha hb1 (by decide) h⟩) hk3 ho4 hk4
      refine ⟨(k + 1, none, Ao', no + 1, c', vals ++ [.slice A' n1 c1]), ⟨rfl, rfl, rfl, rfl, rfl, trivial⟩, ⟨by omega, ?_⟩, by dsimp only; omega⟩
      rw [hsn1, hsn2, hstep, hout']
      exact hst4
  · have hx7 : ¬ x = 0x7e := fun e => h2 (by rw [e]; rfl)
    have hstep : t.step x = (if t.esc then Df.add { t with esc := false } (x ^^^ 0x20) else if x = 0x7d then { t with esc := true } else if mapB x t.accm then t else t.add x, []) := by unfold Df.step; rw [if_neg hx7]
    refine (kind_ok w' t x hb1).mono ?_
    rintro v w2 ⟨rfl, rfl⟩
    cases he : t.esc with
    | true =>
      rw [he] at hstep
      simp only [if_true] at hstep ⊢
      (repeat' (first  | (refine VCmp.mk (fun h => ?_) (fun h => ?_) <;> first | (exfalso; omega) | (conv => whnf))  | (refine VRes.i64 (by omega) ?_; conv => whnf)  | (refine VReq.mk (by omega) ?_; conv => whnf)))
      refine VRes.xor8 (y := 0x20) rfl ?_
      (conv => whnf)
      refine VStore.one hb1 ?_ (fun w3 hb3 hk3 _ => ?_); (· exact Nat.le_of_ble_eq_true rfl)
      (conv => whnf)
      have ho3 := ho1.keep hk3 (fun a ha h => ho1.type_ne ha hb1 (by decide) h)
      refine (add_ok w3 { t with esc := false } (x ^^^ 0x20) hb3 ho3 (by omega)).mono ?_
      rintro v w4 ⟨rfl, A4, n4, c4, hb4, ho4, hk4, hat⟩
      (conv => whnf)
      refine VRes.i64 (by omega) ?_
      (conv => whnf)
      have hst4 := hst0.set hdlt (s2 := Df.add { t with esc := false } (x ^^^ 0x20)) (A2 := A4) (w2 := w4) ⟨n4, c4, hb4, ho4⟩ ((hk3.mono (fun _ _ h => .inl h)).trans hk4) (fun a ha => by
        rcases hat a ha with h | h
        · exact .inl h
        · exact .inr (Nat.le_trans hk3.size h))
      exact ⟨(k + 1, A4, Ao, no, co, vals), ⟨rfl, rfl, rfl, rfl, rfl, trivial⟩, ⟨by omega, fin w4 A4 _ hstep hst4⟩, by dsimp only; omega⟩
    | false =>
      rw [he] at hstep
      simp only [Bool.false_eq_true, if_false] at hstep ⊢
      by_cases h7d : x = 0x7d
      · rw [if_pos h7d] at hstep ⊢
        (repeat' (first  | (refine VCmp.mk (fun h => ?_) (fun h => ?_) <;> first | (exfalso; omega) | (conv => whnf))  | (refine VRes.i64 (by omega) ?_; conv => whnf)  | (refine VReq.mk (by omega) ?_; conv => whnf)))
        refine VStore.one hb1 ?_ (fun w3 hb3 hk3 _ => ?_); (· exact Nat.le_of_ble_eq_true rfl)
        (conv => whnf)
        refine VRes.i64 (by omega) ?_
        (conv => whnf)
        have ho3 := ho1.keep hk3 (fun a ha h => ho1.type_ne ha hb1 (by decide) h)
        have hst4 := hst0.set hdlt (s2 := { t with esc := true }) (A2 := A') (w2 := w3) ⟨n1, c1, hb3, ho3⟩ (hk3.mono (fun _ _ h => .inl h)) (fun a ha => .inl ⟨a, ha, rfl⟩)
        exact ⟨(k + 1, A', Ao, no, co, vals), ⟨rfl, rfl, rfl, rfl, rfl, trivial⟩, ⟨by omega, fin w3 A' _ hstep hst4⟩, by dsimp only; omega⟩
      · rw [if_neg h7d] at hstep ⊢
        cases hmp : mapB x t.accm with
        | true =>
          rw [hmp] at hstep
          simp only [if_true] at hstep ⊢
          (repeat' (first  | (refine VCmp.mk (fun h => ?_) (fun h => ?_) <;> first | (exfalso; omega) | (conv => whnf))  | (refine VRes.i64 (by omega) ?_; conv => whnf)  | (refine VReq.mk (by omega) ?_; conv => whnf)))
          exact ⟨(k + 1, A', Ao, no, co, vals), ⟨rfl, rfl, rfl, rfl, rfl, trivial⟩, ⟨by omega, fin _ A' _ hstep hst0⟩, by dsimp only; omega⟩
        | false =>
          rw [hmp] at hstep
          simp only [Bool.false_eq_true, if_false] at hstep ⊢
          (repeat' (first  | (refine VCmp.mk (fun h => ?_) (fun h => ?_) <;> first | (exfalso; omega) | (conv => whnf))  | (refine VRes.i64 (by omega) ?_; conv => whnf)  | (refine VReq.mk (by omega) ?_; conv => whnf)))
          refine (add_ok _ t x hb1 ho1 (by omega)).mono ?_
          rintro v w4 ⟨rfl, A4, n4, c4, hb4, ho4, hk4, hat⟩
          (conv => whnf)
          refine VRes.i64 (by omega) ?_
          (conv => whnf)
          have hst4 := hst0.set hdlt (s2 := t.add x) (A2 := A4) (w2 := w4) ⟨n4, c4, hb4, ho4⟩ hk4 hat
          exact ⟨(k + 1, A4, Ao, no, co, vals), ⟨rfl, rfl, rfl, rfl, rfl, trivial⟩, ⟨by omega, fin w4 A4 _ hstep hst4⟩, by dsimp only; omega⟩

theorem feed_ok (w : World) {d : Nat} {A : Option Addr} {s : Df} {D : Nat} {B : Option Addr} {m cB : Nat} {l : List UInt8} (hdf : DfA w d A s) (hok : s.Ok D) (hs : Sl w 1 B m (l.map vb)) (hsep : ∀ a, B = some a → ¬ fpt d A a.block)
    (hB : ∀ a, B = some a → a.block < w.heap.size) (hD : D + m ≤ 4611686018427387904) (hm : m ≤ 1099511627776) :
    VC Tryd.prog 20 [.pointer (some ⟨d, 0, none⟩), .slice B m cB] w (fun v w' => ∃ A' Ao no co vals, v = .slice Ao no co ∧ FeedSt w d A s A' Ao no co vals (s.feed l).1 (s.feed l).2 w') :=
  feed_okE w hdf hok hs (fun a ha _ => hsep a ha) (fun a ha _ => hB a ha) hD hm

/-- No frame is longer than may be. -/
theorem Df.feed_each {s : Df} {D : Nat} (h : s.Ok D) : ∀ (l : List UInt8), ∀ f ∈ (s.feed l).2, f.length ≤ 4096 := by
  intro l
  induction l generalizing s D with
  | nil => intro f hf; cases hf
  | cons x l ih =>
    intro f hf
    simp only [Df.feed] at hf
    rcases List.mem_append.1 hf with h1 | h1
    · unfold Df.step at h1
      split at h1
      · unfold Df.out at h1
        dsimp only at h1
        split at h1
        · obtain rfl : f = s.b := by simpa using h1
          have := h.b
          have := h.most
          omega
        · cases h1
      · cases h1
    · exact ih (Df.step_ok h x) f h1
end Go.Proofs.YtpofkhjkdkkajaaDoor
