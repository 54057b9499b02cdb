/-
  The reference's deframer: Feed gives the frames that bytes end.
-/
import Derived.Test.YtpofkhjkdkkajaaDoorR0
import Derived.Test.YtpofkhjkdkkajaaDoorSt4
namespace Go.Proofs.YtpofkhjkdkkajaaDoor
open Go V

structure Rf where
  accm : BitVec 32
  most : Nat
  b : List UInt8
  esc : Bool
  dropped : Nat

abbrev TR : TypeId := 64
def rfCells (s : Rf) (A : Option Addr) (n c : Nat) : List Value := [vw s.accm, .int .i64 s.most, .slice A n c, .bool s.esc, .int .i64 s.dropped]
def RfA (w : World) (d : Nat) (A : Option Addr) (s : Rf) : Prop := ∃ n c, Blk w d TR (rfCells s A n c) ∧ Own w 0 T8 1 A n c (s.b.map vb)
theorem RfA.keep {S : Nat → Prop} {w w' : World} {d : Nat} {A : Option Addr} {s : Rf} (h : RfA w d A s) (k : Keep S w w') (hs : ∀ i, fpt d A i → ¬ S i) : RfA w' d A s := by
  obtain ⟨n, c, h1, h2⟩ := h
  exact ⟨n, c, h1.keep k (hs d (.inl rfl)), h2.keep k (fun a ha => hs _ (.inr ⟨a, ha, rfl⟩))⟩
theorem RfA.keepNo {w w' : World} {d : Nat} {A : Option Addr} {s : Rf} (h : RfA w d A s) (k : Keep No w w') : RfA w' d A s := h.keep k (fun _ _ => id)
theorem RfA.lt {w : World} {d : Nat} {A : Option Addr} {s : Rf} (h : RfA w d A s) : ∀ i, fpt d A i → i < w.heap.size := by
  obtain ⟨n, c, h1, h2⟩ := h
  rintro i (rfl | ⟨a, ha, rfl⟩)
  · exact h1.lt
  · exact (h2.base_ ha).2

def Rf.bad (s : Rf) : Bool := s.esc || decide (s.most < s.b.length)
def Rf.fin (s : Rf) : Rf := { s with b := [], esc := false, dropped := if s.bad then s.dropped + 1 else s.dropped }
def Rf.out (s : Rf) : List (List UInt8) := if (!s.bad && decide (0 < s.b.length)) = true then [s.b] else []
def Rf.step (s : Rf) (x : UInt8) : Rf × List (List UInt8) :=
  if x = 0x7e then (s.fin, s.out) else (if s.esc then { s with esc := false, b := s.b ++ [x ^^^ 0x20] } else if x = 0x7d then { s with esc := true } else if mapB x s.accm then s else { s with b := s.b ++ [x] }, [])
def Rf.feed (s : Rf) : List UInt8 → Rf × List (List UInt8)
  | [] => (s, [])
  | x :: r => (((s.step x).1.feed r).1, (s.step x).2 ++ ((s.step x).1.feed r).2)
theorem Rf.feed_snoc (s : Rf) (l : List UInt8) (x : UInt8) : s.feed (l ++ [x]) = (((s.feed l).1.step x).1, (s.feed l).2 ++ ((s.feed l).1.step x).2) := by
  induction l generalizing s with
  | nil => simp [Rf.feed]
  | cons y l ih => simp [Rf.feed, ih]

/-- The two deframers say the same. -/
structure Rel (s : Df) (r : Rf) : Prop where
  accm : s.accm = r.accm
  most : s.most = r.most
  b : s.b = r.b.take r.most
  long : s.long = decide (r.most < r.b.length)
  esc : s.esc = r.esc
  dropped : s.dropped = r.dropped

theorem Rel.add {s : Df} {r : Rf} (h : Rel s r) (x : UInt8) : Rel (s.add x) { r with b := r.b ++ [x] } := by
  obtain ⟨accm, most, b, long, esc, dropped⟩ := s
  obtain ⟨raccm, rmost, rb, resc, rdropped⟩ := r
  obtain ⟨h1, h2, h3, h4, h5, h6⟩ := h
  dsimp only at h1 h2 h3 h4 h5 h6
  subst h1 h2 h3 h4 h5 h6
  unfold Df.add
  dsimp only
  by_cases hl : most ≤ (rb.take most).length
  · rw [if_pos hl]
    rw [List.length_take] at hl
    exact ⟨rfl, rfl, by show rb.take most = (rb ++ [x]).take most; rw [List.take_append_of_le_length (by omega)], by
      have : most < (rb ++ [x]).length := by rw [List.length_append]; show most < rb.length + 1; omega
      exact (decide_eq_true this).symm, rfl, rfl⟩
  · rw [if_neg hl]
    rw [List.length_take] at hl
    have hlt : rb.length < most := by omega
    refine ⟨rfl, rfl, ?_, ?_, rfl, rfl⟩
    · show rb.take most ++ [x] = (rb ++ [x]).take most
      rw [List.take_of_length_le (by omega), List.take_of_length_le (by rw [List.length_append]; show rb.length + 1 ≤ _; omega)]
    · show decide (most < rb.length) = decide (most < (rb ++ [x]).length)
      rw [decide_eq_false (by omega), decide_eq_false (by rw [List.length_append]; show ¬ most < rb.length + 1; omega)]

theorem Rel.bad {s : Df} {r : Rf} (h : Rel s r) : (s.long || s.esc) = r.bad := by
  unfold Rf.bad
  rw [h.long, h.esc, Bool.or_comm]

theorem Rel.step {s : Df} {r : Rf} (h : Rel s r) (hm : 0 < r.most) (x : UInt8) : Rel (s.step x).1 (r.step x).1 ∧ (s.step x).2 = (r.step x).2 := by
  have hb := h.bad
  unfold Df.step Rf.step
  by_cases h7 : x = 0x7e
  · rw [if_pos h7, if_pos h7]
    refine ⟨?_, ?_⟩
    · exact ⟨h.accm, h.most, by simp [Df.fin, Rf.fin], by simp [Df.fin, Rf.fin], rfl, by
        show (if (s.long || s.esc) = true then s.dropped + 1 else s.dropped) = (if r.bad = true then r.dropped + 1 else r.dropped)
        rw [hb, h.dropped]⟩
    · show s.out = r.out
      unfold Df.out Rf.out
      rw [hb]
      cases hbad : r.bad with
      | true => rfl
      | false =>
        have hlen : ¬ r.most < r.b.length := by
          unfold Rf.bad at hbad
          rw [Bool.or_eq_false_iff] at hbad
          exact of_decide_eq_false hbad.2
        have e : s.b = r.b := by rw [h.b, List.take_of_length_le (by omega)]
        rw [e]
  · rw [if_neg h7, if_neg h7]
    refine ⟨?_, rfl⟩
    clear hb
    have h' := h
    obtain ⟨accm, most, b, long, esc, dropped⟩ := s
    obtain ⟨raccm, rmost, rb, resc, rdropped⟩ := r
    obtain ⟨h1, h2, h3, h4, h5, h6⟩ := h
    dsimp only at h1 h2 h3 h4 h5 h6 ⊢
    subst h1 h2 h5 h6
    split
    · exact Rel.add (s := ⟨accm, most, b, long, false, dropped⟩) (r := ⟨accm, most, rb, false, dropped⟩) ⟨rfl, rfl, h3, h4, rfl, rfl⟩ _
    · split
      · exact ⟨rfl, rfl, h3, h4, rfl, rfl⟩
      · split
        · exact h'
        · exact Rel.add h' x

theorem Rf.step_most (r : Rf) (x : UInt8) : (r.step x).1.most = r.most := by
  unfold Rf.step Rf.fin
  repeat' split
  all_goals rfl
theorem Rel.feed {s : Df} {r : Rf} (h : Rel s r) (hm : 0 < r.most) (l : List UInt8) : Rel (s.feed l).1 (r.feed l).1 ∧ (s.feed l).2 = (r.feed l).2 := by
  induction l generalizing s r with
  | nil => exact ⟨h, rfl⟩
  | cons x l ih =>
    obtain ⟨h1, h2⟩ := h.step hm x
    obtain ⟨h3, h4⟩ := ih h1 (by rw [Rf.step_most]; exact hm)
    exact ⟨h3, by show _ ++ _ = _ ++ _; rw [h2, h4]⟩

/-- What is always so of it. -/
structure Rf.Ok (s : Rf) (D : Nat) : Prop where
  m0 : 0 < s.most
  most : s.most ≤ 4096
  b : s.b.length ≤ D
  d : s.dropped ≤ D
theorem Rf.step_ok {s : Rf} {D : Nat} (h : s.Ok D) (x : UInt8) : (s.step x).1.Ok (D + 1) := by
  obtain ⟨h0, h1, h2, h3⟩ := h
  unfold Rf.step Rf.fin
  repeat' split
  all_goals (refine ⟨h0, h1, ?_, ?_⟩ <;> first | (dsimp only; omega) | (simp; done) | (simp; omega) | (dsimp only; split <;> omega))
theorem Rf.feed_ok' {s : Rf} {D : Nat} (h : s.Ok D) : ∀ (l : List UInt8), (s.feed l).1.Ok (D + l.length) := by
  intro l
  induction l generalizing s D with
  | nil => exact h
  | cons x l ih =>
    have := ih (Rf.step_ok h x)
    simp only [Rf.feed, List.length_cons]
    rw [show D + (l.length + 1) = D + 1 + l.length from by omega]
    exact this
theorem Rf.feed_len (s : Rf) (l : List UInt8) : (s.feed l).2.length ≤ l.length := by
  induction l generalizing s with
  | nil => simp [Rf.feed]
  | cons x l ih =>
    simp only [Rf.feed, List.length_append, List.length_cons]
    have := ih (s.step x).1
    have h1 : (s.step x).2.length ≤ 1 := by
      unfold Rf.step
      split
      · unfold Rf.out
        dsimp only
        split <;> simp
      · simp
    omega

structure RFeedSt (w : World) (d : Nat) (A A' Ao : Option Addr) (no co : Nat) (vals : List Value) (s' : Rf) (fs : List (List UInt8)) (w' : World) : Prop where
  df : RfA w' d A' s'
  out : Own w' w.heap.size TS8 1 Ao no co vals
  len : no = vals.length
  els : Els w' (frX w w' d A A') vals fs
  keep : Keep (fpt d A) w w'
  buf : ∀ a, A' = some a → ownS A a.block ∨ w.heap.size ≤ a.block
theorem RFeedSt.no_len {w : World} {d : Nat} {A A' Ao : Option Addr} {no co : Nat} {vals : List Value} {s' : Rf} {fs : List (List UInt8)} {w' : World} (h : RFeedSt w d A A' Ao no co vals s' fs w') : no = fs.length := by
  rw [h.len, h.els.1]

theorem RFeedSt.set {w : World} {d : Nat} {A A' Ao : Option Addr} {no co : Nat} {vals : List Value} {s' : Rf} {fs : List (List UInt8)} {w' : World} (h : RFeedSt w d A A' Ao no co vals s' fs w') (hd : d < w.heap.size)
    {A2 : Option Addr} {s2 : Rf} {w2 : World} (hdf : RfA w2 d A2 s2) (hk : Keep (fpt d A') w' w2) (hA2 : ∀ a, A2 = some a → ownS A' a.block ∨ w'.heap.size ≤ a.block) : RFeedSt w d A A2 Ao no co vals s2 fs w2 := by
  obtain ⟨hdf0, hout, hlen, hels, hkeep, hbuf⟩ := h
  obtain ⟨n0, c0, hb0, ho0⟩ := hdf0
  have hnf : ∀ i, frX w w' d A A' i → ¬ fpt d A' i := by
    rintro i ⟨_, _, h3, h4, _⟩ (h | h)
    · exact h3 h
    · exact h4 h
  refine ⟨hdf, hout.keep hk ?_, hlen, ?_, ?_, ?_⟩
  · rintro a ha (h | ⟨a0, h0, h⟩)
    · exact hout.type_ne ha hb0 (by decide) h
    · exact (Ty.ne (hout.ty ha) (ho0.ty h0) (by decide)) h.symm
  · refine (hels.keep hk hnf).mono ?_
    rintro i ⟨h1, h2, h3, h4, h5⟩
    refine ⟨h1, Nat.lt_of_lt_of_le h2 hk.size, h3, ?_, h5.keep hk (hnf i ⟨h1, h2, h3, h4, h5⟩)⟩
    rintro ⟨a, ha, rfl⟩
    rcases hA2 a ha with h | h
    · exact h4 h
    · omega
  · refine ⟨hk.os.trans hkeep.os, hk.tape.trans hkeep.tape, hk.output.trans hkeep.output, Nat.le_trans hkeep.size hk.size, fun i hi hn => ?_⟩
    rw [hk.block i (Nat.lt_of_lt_of_le hi hkeep.size) ?_, hkeep.block i hi hn]
    rintro (h | ⟨a, ha, rfl⟩)
    · exact hn (.inl h)
    · rcases hbuf a ha with h | h
      · exact hn (.inr h)
      · omega
  · intro a ha
    rcases hA2 a ha with ⟨a0, h0, h⟩ | h
    · rcases hbuf a0 h0 with h1 | h1
      · exact .inl (h ▸ h1)
      · exact .inr (by omega)
    · exact .inr (Nat.le_trans hkeep.size h)

/-- A frame, in new memory, is told. -/
theorem RFeedSt.push {w : World} {d : Nat} {A A' Ao : Option Addr} {no co : Nat} {vals : List Value} {s' : Rf} {fs : List (List UInt8)} {w' : World} (h : RFeedSt w d A A' Ao no co vals s' fs w') (hd : d < w.heap.size)
    {w2 : World} (hk2 : Keep No w' w2) {A1 : Option Addr} {n1 c1 : Nat} {f : List UInt8} (hfr : Own w2 w'.heap.size T8 1 A1 n1 c1 (f.map vb))
    {w3 w4 : World} {Ao' : Option Addr} {c' : Nat} (hk3 : Keep No w2 w3) (ho : Own w4 w.heap.size TS8 1 Ao' (no + 1) c' (vals ++ [.slice A1 n1 c1])) (hk4 : Keep (ownS Ao) w3 w4) :
    RFeedSt w d A A' Ao' (no + 1) c' (vals ++ [.slice A1 n1 c1]) s' (fs ++ [f]) w4 := by
  have hn : f.length = n1 := by simpa using (Sl.ofOwn hfr).len
  obtain ⟨hdf, hout, hlen, hels, hkeep, hbuf⟩ := h
  have hdl := hdf.lt
  have hdf' := hdf
  obtain ⟨n0, c0, hb0, ho0⟩ := hdf'
  have hk23 := hk2.trans hk3
  have hout3 := Own.keepNo hout hk23
  have hfr3 := Own.keepNo hfr hk3
  have hb3 := hb0.keep hk23 id
  have ho3 := ho0.keepNo hk23
  have hx3 : ∀ i, frX w w' d A A' i → ¬ ownS Ao i := by
    rintro i ⟨_, _, _, _, h5⟩ ⟨a, ha, rfl⟩
    exact Ty.ne (hout.ty ha) h5 (by decide) rfl
  have hs2 := hk2.size
  have hs3 := hk3.size
  have hs4 := hk4.size
  have hs0 := hkeep.size
  refine ⟨(hdf.keepNo hk23).keep hk4 ?_, ho, by simp [hlen], ?_, ?_, hbuf⟩
  · rintro i (rfl | ⟨a, ha, rfl⟩)
    · rintro ⟨a, ha, h⟩
      exact hout3.type_ne ha hb3 (by decide) h
    · rintro ⟨a0, h0, h⟩
      exact Ty.ne (hout3.ty h0) (ho3.ty ha) (by decide) h
  · refine Els.snoc ?_ ?_
    · refine ((hels.keep hk23 (fun _ _ => id)).keep hk4 hx3).mono ?_
      rintro i ⟨h1, h2, h3, h4, h5⟩
      exact ⟨h1, by omega, h3, h4, (h5.keep hk23 id).keep hk4 (hx3 i ⟨h1, h2, h3, h4, h5⟩)⟩
    · have hne : ∀ a, A1 = some a → ¬ ownS Ao a.block := by
        rintro a ha ⟨a0, h0, h⟩
        exact Ty.ne (hout3.ty h0) (hfr3.ty ha) (by decide) h
      have hfr4 := hfr3.keep hk4 hne
      refine ⟨A1, c1, by rw [hn], by rw [hn]; exact Own.le_cap hfr4, by rw [hn]; exact Sl.ofOwn hfr4, ?_⟩
      intro a ha _
      have h1 := (hfr.base_ ha).1
      refine ⟨.inr (by omega), (hfr4.base_ ha).2, by omega, ?_, hfr4.ty ha⟩
      rintro ⟨a0, h0, h⟩
      have := hdl _ (.inr ⟨a0, h0, rfl⟩)
      omega
  · refine ⟨hk4.os.trans (hk23.os.trans hkeep.os), hk4.tape.trans (hk23.tape.trans hkeep.tape), hk4.output.trans (hk23.output.trans hkeep.output), by omega, fun i hi hn => ?_⟩
    rw [hk4.block i (by omega) ?_, hk23.block i (by omega) id, hkeep.block i hi hn]
    rintro ⟨a, ha, rfl⟩
    have := (hout.base_ ha).1
    omega

theorem refFeed_ok (w : World) {d : Nat} {A : Option Addr} {s : Rf} {D : Nat} {B : Option Addr} {m cB : Nat} {l : List UInt8} (hdf : RfA w d A s) (hok : s.Ok D) (hs : Sl w 1 B m (l.map vb)) (hsep : ∀ a, B = some a → 0 < m → ¬ fpt d A a.block)
    (hD : D + m ≤ 1099511627776) (hm : m ≤ 1099511627776) :
    VC Tryd.prog 24 [.pointer (some ⟨d, 0, none⟩), .slice B m cB] w (fun v w' => ∃ A' Ao no co vals, v = .slice Ao no co ∧ RFeedSt w d A A' Ao no co vals (s.feed l).1 (s.feed l).2 w') := by
  have hl : l.length = m := by simpa using hs.len
  have hdlt : d < w.heap.size := hdf.lt d (.inl rfl)
  obtain ⟨n0, c0, hb0, ho0⟩ := hdf
  refine VC.of tt_ok Tryd.func24 rfl (by decide +kernel) (Nat.le_of_ble_eq_true rfl) ?_; (conv => whnf)
  refine VLoop.by_ tt_ok (S := Nat × Option Addr × Option Addr × Nat × Nat × List Value) (fun | (k, _, Ao, no, co, _) => [(0, .pointer (some ⟨d, 0, none⟩)), (1, .slice B m cB), (5, .slice Ao no co), (6, .int .i64 k)])
    (fun | (k, A', Ao, no, co, vals) => fun w' => k ≤ m ∧ RFeedSt w d A A' Ao no co vals (s.feed (l.take k)).1 (s.feed (l.take k)).2 w') (fun | (k, _) => m - k)
    (0, A, none, 0, 0, []) ⟨rfl, rfl, rfl, rfl, trivial⟩ ⟨Nat.zero_le _, ⟨⟨n0, c0, hb0, ho0⟩, Own.nil _ _ _ _, rfl, Els.nil _ _, Keep.refl _ _, fun a ha => .inl ⟨a, ha, rfl⟩⟩⟩ ?_
  rintro ⟨k, A', Ao, no, co, vals⟩ w' ⟨hk, hst⟩
  have hokk := Rf.feed_ok' hok (l.take k)
  have htl : (l.take k).length = k := by rw [List.length_take]; omega
  rw [htl] at hokk
  (conv => whnf)
  refine VCmp.mk (fun h => ?_) (fun h => ?_) <;> (conv => whnf)
  rotate_left
  · have hkm : k = m := by omega
    subst hkm
    rw [List.take_of_length_le (by omega)] at hst
    exact ⟨A', Ao, no, co, vals, rfl, hst⟩
  obtain ⟨x, hx⟩ : ∃ x, l[k]? = some x := ⟨_, List.getElem?_eq_getElem (by omega)⟩
  have hsn : s.feed (l.take (k + 1)) = (((s.feed (l.take k)).1.step x).1, (s.feed (l.take k)).2 ++ ((s.feed (l.take k)).1.step x).2) := by
    rw [List.take_add_one, hx]; exact Rf.feed_snoc _ _ _
  have hfl := Rf.feed_len s (l.take k)
  rw [htl] at hfl
  have hsn1 := congrArg Prod.fst hsn
  have hsn2 := congrArg Prod.snd hsn
  dsimp only at hsn1 hsn2
  generalize (s.feed (l.take k)).1 = t at hst hokk hsn1 hsn2
  generalize (s.feed (l.take k)).2 = fs at hst hsn1 hsn2 hfl
  clear hsn
  obtain ⟨b, o, hBe, hc⟩ := (hs.keepP hst.keep (fun a ha h0 => hsep a ha h0)).at_ (by omega)
  refine VIdx.one k rfl (by omega) hBe ?_
  (conv => whnf)
  refine VLoad.by_ (hc k (vb x) (by simp [hx])) ?_
  (conv => whnf)
  have hst0 := hst
  obtain ⟨⟨n1, c1, hb1, ho1⟩, hout, hlen, hels, hkeep, hbuf⟩ := hst
  have hbl : t.b.length = n1 := by simpa using (Sl.ofOwn ho1).len
  have hnb := hokk.b
  have hnd := hokk.d
  have hno := hst0.no_len
  -- the round's end
  have fin : ∀ (w2 : World) (A2 : Option Addr) (s2 : Rf), (t.step x) = (s2, []) → RFeedSt w d A A2 Ao no co vals s2 fs w2 → RFeedSt w d A A2 Ao no co vals (s.feed (l.take (k + 1))).1 (s.feed (l.take (k + 1))).2 w2 := by
    intro w2 A2 s2 he h2
    rw [hsn1, hsn2, he, List.append_nil]
    exact h2
  obtain ⟨accm, most, tb, esc, dropped⟩ := t
  unfold rfCells at hb1
  dsimp only at hb1 ho1 hbl hnb hnd
  refine VCmp.mk (fun h2 => ?_) (fun h2 => ?_) <;> (conv => whnf)
  · have hx7 : x = 0x7e := UInt8.toNat_inj.1 (by have : (0x7e : UInt8).toNat = 126 := rfl; omega)
    have hbad : (esc || decide (most < n1)) = true → Rf.step ⟨accm, most, tb, esc, dropped⟩ x = (⟨accm, most, [], false, dropped + 1⟩, []) := fun e => by
      rw [← hbl] at e
      unfold Rf.step Rf.fin Rf.out Rf.bad
      rw [if_pos hx7]
      dsimp only
      rw [e]
      rfl
    have hgood : (esc || decide (most < n1)) = false → Rf.step ⟨accm, most, tb, esc, dropped⟩ x = (⟨accm, most, [], false, dropped⟩, if 0 < n1 then [tb] else []) := fun e => by
      rw [← hbl] at e ⊢
      unfold Rf.step Rf.fin Rf.out Rf.bad
      rw [if_pos hx7]
      dsimp only
      rw [e]
      by_cases h0 : 0 < tb.length
      · rw [if_pos h0, decide_eq_true h0]; rfl
      · rw [if_neg h0, decide_eq_false h0]; rfl
    cases esc with
    | true =>
      refine VDraw.by_ tt_ok rfl (.take 0 (.take 1 (.take 2 (.take 3 (.take 4 (.take 5 (.take 6 (.take 7 (.take 8 (.take 9 (.take 10 (.take 11 (.take 12 (.take 13 (.take 14 (.take 15 .done)))))))))))))))) (by decide +kernel) _ (fun x h1 h2 h3 h4 => Keep.ofHeap h1 h2 h3 h4) (fun wd hd kd => ?_)
      (conv => whnf)
      refine VLoad.keep (hb1.cell 3) ?_
      (conv => whnf)
      have hbd := hb1.keep kd id
      refine VLoad.by_ (hbd.cell 4) ?_
      (conv => whnf)
      refine VRes.i64 (by omega) ?_
      (conv => whnf)
      refine VStore.one hbd (Nat.le_of_ble_eq_true rfl) (fun wc hbc hkc _ => ?_)
      (conv => whnf)
      refine VStore.one hbc (Nat.le_of_ble_eq_true rfl) (fun wa hba hka _ => ?_)
      (conv => whnf)
      refine VStore.one hba (Nat.le_of_ble_eq_true rfl) (fun wb hbb hkb _ => ?_)
      (conv => whnf)
      refine VRes.i64 (by omega) ?_
      (conv => whnf)
      have hkall := (((kd.mono (fun _ _ h => h.elim)).trans hkc).trans hka).trans hkb
      have hst2 := hst0.set hdlt (s2 := ⟨accm, most, [], false, dropped + 1⟩) (A2 := none) (w2 := wb) ⟨0, 0, hbb, Own.nil _ _ _ _⟩ (hkall.mono (fun _ _ h => .inl h)) (fun a ha => by cases ha)
      exact ⟨(k + 1, none, Ao, no, co, vals), ⟨rfl, rfl, rfl, rfl, trivial⟩, ⟨by omega, fin wb none _ (hbad rfl) hst2⟩, by dsimp only; omega⟩
    | false =>
      refine VDraw.by_ tt_ok rfl (.take 0 (.take 1 (.take 2 (.take 3 (.take 4 (.take 5 (.take 6 (.take 7 (.take 8 (.take 9 (.take 10 (.take 11 (.take 12 (.take 13 (.take 14 (.take 15 .done)))))))))))))))) (by decide +kernel) _ (fun x h1 h2 h3 h4 => Keep.ofHeap h1 h2 h3 h4) (fun wd hd kd => ?_)
      (conv => whnf)
      refine VLoad.keep (hb1.cell 3) ?_
      (conv => whnf)
      refine VLoad.keep (hb1.cell 2) ?_
      (conv => whnf)
      refine VLoad.keep (hb1.cell 1) ?_
      (conv => whnf)
      refine VCmp.mk (fun h3 => ?_) (fun h3 => ?_) <;> (conv => whnf)
      · skip
        have hbd := hb1.keep kd id
        refine VLoad.by_ (hbd.cell 4) ?_
        (conv => whnf)
        refine VRes.i64 (by omega) ?_
        (conv => whnf)
        refine VStore.one hbd (Nat.le_of_ble_eq_true rfl) (fun wc hbc hkc _ => ?_)
        (conv => whnf)
        refine VStore.one hbc (Nat.le_of_ble_eq_true rfl) (fun wa hba hka _ => ?_)
        (conv => whnf)
        refine VStore.one hba (Nat.le_of_ble_eq_true rfl) (fun wb hbb hkb _ => ?_)
        (conv => whnf)
        refine VRes.i64 (by omega) ?_
        (conv => whnf)
        have hkall := (((kd.mono (fun _ _ h => h.elim)).trans hkc).trans hka).trans hkb
        have hst2 := hst0.set hdlt (s2 := ⟨accm, most, [], false, dropped + 1⟩) (A2 := none) (w2 := wb) ⟨0, 0, hbb, Own.nil _ _ _ _⟩ (hkall.mono (fun _ _ h => .inl h)) (fun a ha => by cases ha)
        exact ⟨(k + 1, none, Ao, no, co, vals), ⟨rfl, rfl, rfl, rfl, trivial⟩, ⟨by omega, fin wb none _ (hbad (decide_eq_true (by omega))) hst2⟩, by dsimp only; omega⟩
      · have hgd := hgood (decide_eq_false (by omega))
        have hbd := hb1.keep kd id
        refine VLoad.by_ (hbd.cell 2) ?_
        (conv => whnf)
        refine VCmp.mk (fun h4 => ?_) (fun h4 => ?_) <;> (conv => whnf)
        · refine VLoad.by_ (hbd.cell 2) ?_
          (conv => whnf)
          refine (copy_ok wd (Sl.ofOwn (ho1.keepNo kd)) (by omega)).mono ?_
          rintro v w2 ⟨A2, c2, rfl, ho2, hk2⟩
          (conv => whnf)
          refine VFill.by_ rfl ?_
          (conv => whnf)
          refine ⟨fun w3 hb3 hk3 => ?_⟩
          (conv => whnf)
          have hout3 := Own.keepNo (Own.keepNo (Own.keepNo hst0.out kd) hk2) hk3
          refine VApp.own tt_ok (it := ty57) (ei := ty27) rfl rfl rfl (size := 1) rfl rfl (by omega) hout3 (ys := [.slice A2 n1 c2]) (Sl.ofBlk (n := 1) (size := 1) hb3 rfl) (by simp [Value.oneCell']) (by show (no + 1) * 24 ≤ _; omega) (by omega) (by have := hst0.keep.size; have := kd.size; have := hk2.size; have := hk3.size; omega) ?_
          intro Ao' c' w4 ho4 hk4 _
          (conv => whnf)
          have hst4 := hst0.push hdlt (kd.trans hk2) (ho2.mono kd.size) hk3 ho4 hk4
          obtain ⟨⟨nz, cz, hbz, hoz⟩, _, _, _, _, _⟩ := hst4
          have hst4 := hst0.push hdlt (kd.trans hk2) (ho2.mono kd.size) hk3 ho4 hk4
          unfold rfCells at hbz
          dsimp only at hbz
          refine VStore.one hbz (Nat.le_of_ble_eq_true rfl) (fun wa hba hka _ => ?_)
          (conv => whnf)
          refine VStore.one hba (Nat.le_of_ble_eq_true rfl) (fun wb hbb hkb _ => ?_)
          (conv => whnf)
          refine VRes.i64 (by omega) ?_
          (conv => whnf)
          have hkall := hka.trans hkb
          have hst2 := hst4.set hdlt (s2 := ⟨accm, most, [], false, dropped⟩) (A2 := none) (w2 := wb) ⟨0, 0, hbb, Own.nil _ _ _ _⟩ (hkall.mono (fun _ _ h => .inl h)) (fun a ha => by cases ha)
          refine ⟨(k + 1, none, Ao', no + 1, c', vals ++ [.slice A2 n1 c2]), ⟨rfl, rfl, rfl, rfl, trivial⟩, ⟨by omega, ?_⟩, by dsimp only; omega⟩
          rw [hsn1, hsn2, hgd, if_pos (by omega)]
          exact hst2
        · skip
          refine VStore.one hbd (Nat.le_of_ble_eq_true rfl) (fun wa hba hka _ => ?_)
          (conv => whnf)
          refine VStore.one hba (Nat.le_of_ble_eq_true rfl) (fun wb hbb hkb _ => ?_)
          (conv => whnf)
          refine VRes.i64 (by omega) ?_
          (conv => whnf)
          have hkall := ((kd.mono (fun _ _ h => h.elim)).trans hka).trans hkb
          have hst2 := hst0.set hdlt (s2 := ⟨accm, most, [], false, dropped⟩) (A2 := none) (w2 := wb) ⟨0, 0, hbb, Own.nil _ _ _ _⟩ (hkall.mono (fun _ _ h => .inl h)) (fun a ha => by cases ha)
          exact ⟨(k + 1, none, Ao, no, co, vals), ⟨rfl, rfl, rfl, rfl, trivial⟩, ⟨by omega, fin wb none _ (by rw [hgd, if_neg (by omega)]) hst2⟩, by dsimp only; omega⟩
  · have hx7 : ¬ x = 0x7e := fun e => h2 (by rw [e]; rfl)
    have hstep : Rf.step ⟨accm, most, tb, esc, dropped⟩ x = (if esc then ⟨accm, most, tb ++ [x ^^^ 0x20], false, dropped⟩ else if x = 0x7d then ⟨accm, most, tb, true, dropped⟩ else if mapB x accm then ⟨accm, most, tb, esc, dropped⟩ else ⟨accm, most, tb ++ [x], esc, dropped⟩, []) := by unfold Rf.step; rw [if_neg hx7]
    refine VLoad.by_ (hb1.cell 3) ?_
    (conv => whnf)
    cases esc with
    | true =>
      (conv => whnf)
      refine VStore.one hb1 (Nat.le_of_ble_eq_true rfl) (fun we hbe hke _ => ?_)
      (conv => whnf)
      refine VLoad.by_ (hbe.cell 2) ?_
      (conv => whnf)
      refine VRes.xor8 (y := 0x20) rfl ?_
      (conv => whnf)
      have hoe := ho1.keep hke (fun a hA h => ho1.type_ne hA hb1 (by decide) h)
      have hkk : Keep (fpt d A') w' we := hke.mono (fun _ _ h => .inl h)
      refine VFill.by_ rfl ?_
      (conv => whnf)
      refine ⟨fun wf hbf hkf => ?_⟩
      (conv => whnf)
      have hof := Own.keepNo hoe hkf
      refine VApp.own tt_ok (it := ty27) (ei := ty5) rfl rfl rfl (size := 1) rfl rfl (by omega) (base := 0) hof (ys := [vb (x ^^^ 0x20)]) (Sl.ofBlk (n := 1) (size := 1) hbf rfl) (one8 [x ^^^ 0x20]) (by show (n1 + 1) * 1 ≤ _; omega) (by omega) (Nat.zero_le _) ?_
      intro A5 c5 wg hog hkg hat
      (conv => whnf)
      have hbg := (Blk.keep (Blk.keep hbe hkf id) hkg (fun ⟨a, hA, h⟩ => hof.type_ne hA (Blk.keep hbe hkf id) (by decide) h))
      refine VStore.one hbg (Nat.le_of_ble_eq_true rfl) (fun wh hbh hkh _ => ?_)
      (conv => whnf)
      refine VRes.i64 (by omega) ?_
      (conv => whnf)
      have hoh : Own wh 0 T8 1 A5 (n1 + 1) c5 ((tb ++ [x ^^^ 0x20]).map vb) := by
        have := hog.keep hkh (fun a hA h => hog.type_ne hA hbg (by decide) h)
        simpa using this
      have kall : Keep (fpt d A') w' wh := ((hkk.trans (hkf.mono (fun _ _ h => h.elim))).trans (hkg.mono (fun _ _ h => .inr h))).trans (hkh.mono (fun _ _ h => .inl h))
      have hst2 := hst0.set hdlt (s2 := ⟨accm, most, tb ++ [x ^^^ 0x20], false, dropped⟩) (A2 := A5) (w2 := wh) ⟨n1 + 1, c5, hbh, hoh⟩ kall (fun a hA => by
        rcases hat a hA with ⟨a0, h1, h2⟩ | h
        · exact .inl ⟨a0, h1, h2.symm⟩
        · exact .inr (by have := hkk.size; have := hkf.size; omega))
      exact ⟨(k + 1, A5, Ao, no, co, vals), ⟨rfl, rfl, rfl, rfl, trivial⟩, ⟨by omega, fin wh A5 _ hstep hst2⟩, by dsimp only; omega⟩
    | false =>
      rw [if_neg (by decide)] at hstep
      (conv => whnf)
      by_cases h7d : x = 0x7d
      · rw [if_pos h7d] at hstep
        have h125 : x.toNat = 125 := by rw [h7d]; rfl
        (repeat' (first  | (refine VCmp.mk (fun h => ?_) (fun h => ?_) <;> first | (exfalso; omega) | (conv => whnf))  | (refine VRes.i64 (by omega) ?_; conv => whnf)  | (refine VReq.mk (by omega) ?_; conv => whnf)))
        refine VStore.one hb1 (Nat.le_of_ble_eq_true rfl) (fun we hbe hke _ => ?_)
        (conv => whnf)
        refine VRes.i64 (by omega) ?_
        (conv => whnf)
        have hoe := ho1.keep hke (fun a hA h => ho1.type_ne hA hb1 (by decide) h)
        have hst2 := hst0.set hdlt (s2 := ⟨accm, most, tb, true, dropped⟩) (A2 := A') (w2 := we) ⟨n1, c1, hbe, hoe⟩ (hke.mono (fun _ _ h => .inl h)) (fun a ha => .inl ⟨a, ha, rfl⟩)
        exact ⟨(k + 1, A', Ao, no, co, vals), ⟨rfl, rfl, rfl, rfl, trivial⟩, ⟨by omega, fin we A' _ hstep hst2⟩, by dsimp only; omega⟩
      · rw [if_neg h7d] at hstep
        have h125 : ¬ x.toNat = 125 := fun e => h7d (UInt8.toNat_inj.1 e)
        have hM := mapB_iff x accm
        have hx8 := x.toNat_lt
        cases hmp : mapB x accm with
        | true =>
          rw [hmp] at hstep hM
          obtain ⟨hm1, hm2⟩ := hM.1 rfl
          (repeat' (first  | (refine VCmp.mk (fun h => ?_) (fun h => ?_) <;> first | (exfalso; omega) | (conv => whnf))  | (refine VRes.i64 (by omega) ?_; conv => whnf)  | (refine VReq.mk (by omega) ?_; conv => whnf)))
          refine VLoad.by_ (hb1.cell 0) ?_
          (conv => whnf)
          refine VRes.u64 (by omega) ?_
          (conv => whnf)
          refine VReq.mk (by omega) ?_
          (conv => whnf)
          refine VRes.shr32 rfl ?_
          (conv => whnf)
          refine VRes.and32 (y := 1#32) rfl ?_
          (conv => whnf)
          refine VCmp.mk (fun h5 => ?_) (fun h5 => ?_) <;> first | (exfalso; omega) | (conv => whnf)
          refine VRes.i64 (by omega) ?_
          (conv => whnf)
          exact ⟨(k + 1, A', Ao, no, co, vals), ⟨rfl, rfl, rfl, rfl, trivial⟩, ⟨by omega, fin _ A' _ hstep hst0⟩, by dsimp only; omega⟩
        | false =>
          rw [hmp] at hstep hM
          have hM' : ¬ (x.toNat < 32 ∧ ((accm >>> x.toNat) &&& 1#32).toNat = 1) := fun h => nomatch hM.2 h
          have hkk : Keep (fpt d A') w' w' := Keep.refl _ _
          (repeat' (first  | (refine VCmp.mk (fun h => ?_) (fun h => ?_) <;> first | (exfalso; omega) | (conv => whnf))  | (refine VRes.i64 (by omega) ?_; conv => whnf)  | (refine VReq.mk (by omega) ?_; conv => whnf)))
          · refine VLoad.by_ (hb1.cell 0) ?_
            (conv => whnf)
            refine VRes.u64 (by omega) ?_
            (conv => whnf)
            refine VReq.mk (by omega) ?_
            (conv => whnf)
            refine VRes.shr32 rfl ?_
            (conv => whnf)
            refine VRes.and32 (y := 1#32) rfl ?_
            (conv => whnf)
            refine VCmp.mk (fun h5 => ?_) (fun h5 => ?_) <;> first | (exfalso; exact hM' ⟨by omega, by omega⟩) | (conv => whnf)
            refine VLoad.by_ (hb1.cell 2) ?_
            (conv => whnf)
            refine VFill.by_ rfl ?_
            (conv => whnf)
            refine ⟨fun wf hbf hkf => ?_⟩
            (conv => whnf)
            have hof := Own.keepNo ho1 hkf
            refine VApp.own tt_ok (it := ty27) (ei := ty5) rfl rfl rfl (size := 1) rfl rfl (by omega) (base := 0) hof (ys := [vb (x)]) (Sl.ofBlk (n := 1) (size := 1) hbf rfl) (one8 [x]) (by show (n1 + 1) * 1 ≤ _; omega) (by omega) (Nat.zero_le _) ?_
            intro A5 c5 wg hog hkg hat
            (conv => whnf)
            have hbg := (Blk.keep (Blk.keep hb1 hkf id) hkg (fun ⟨a, hA, h⟩ => hof.type_ne hA (Blk.keep hb1 hkf id) (by decide) h))
            refine VStore.one hbg (Nat.le_of_ble_eq_true rfl) (fun wh hbh hkh _ => ?_)
            (conv => whnf)
            refine VRes.i64 (by omega) ?_
            (conv => whnf)
            have hoh : Own wh 0 T8 1 A5 (n1 + 1) c5 ((tb ++ [x]).map vb) := by
              have := hog.keep hkh (fun a hA h => hog.type_ne hA hbg (by decide) h)
              simpa using this
            have kall : Keep (fpt d A') w' wh := ((hkk.trans (hkf.mono (fun _ _ h => h.elim))).trans (hkg.mono (fun _ _ h => .inr h))).trans (hkh.mono (fun _ _ h => .inl h))
            have hst2 := hst0.set hdlt (s2 := ⟨accm, most, tb ++ [x], false, dropped⟩) (A2 := A5) (w2 := wh) ⟨n1 + 1, c5, hbh, hoh⟩ kall (fun a hA => by
              rcases hat a hA with ⟨a0, h1, h2⟩ | h
              · exact .inl ⟨a0, h1, h2.symm⟩
              · exact .inr (by have := hkk.size; have := hkf.size; omega))
            exact ⟨(k + 1, A5, Ao, no, co, vals), ⟨rfl, rfl, rfl, rfl, trivial⟩, ⟨by omega, fin wh A5 _ hstep hst2⟩, by dsimp only; omega⟩
          · refine VLoad.by_ (hb1.cell 2) ?_
            (conv => whnf)
            refine VFill.by_ rfl ?_
            (conv => whnf)
            refine ⟨fun wf hbf hkf => ?_⟩
            (conv => whnf)
            have hof := Own.keepNo ho1 hkf
            refine VApp.own tt_ok (it := ty27) (ei := ty5) rfl rfl rfl (size := 1) rfl rfl (by omega) (base := 0) hof (ys := [vb (x)]) (Sl.ofBlk (n := 1) (size := 1) hbf rfl) (one8 [x]) (by show (n1 + 1) * 1 ≤ _; omega) (by omega) (Nat.zero_le _) ?_
            intro A5 c5 wg hog hkg hat
            (conv => whnf)
            have hbg := (Blk.keep (Blk.keep hb1 hkf id) hkg (fun ⟨a, hA, h⟩ => hof.type_ne hA (Blk.keep hb1 hkf id) (by decide) h))
            refine VStore.one hbg (Nat.le_of_ble_eq_true rfl) (fun wh hbh hkh _ => ?_)
            (conv => whnf)
            refine VRes.i64 (by omega) ?_
            (conv => whnf)
            have hoh : Own wh 0 T8 1 A5 (n1 + 1) c5 ((tb ++ [x]).map vb) := by
              have := hog.keep hkh (fun a hA h => hog.type_ne hA hbg (by decide) h)
              simpa using this
            have kall : Keep (fpt d A') w' wh := ((hkk.trans (hkf.mono (fun _ _ h => h.elim))).trans (hkg.mono (fun _ _ h => .inr h))).trans (hkh.mono (fun _ _ h => .inl h))
            have hst2 := hst0.set hdlt (s2 := ⟨accm, most, tb ++ [x], false, dropped⟩) (A2 := A5) (w2 := wh) ⟨n1 + 1, c5, hbh, hoh⟩ kall (fun a hA => by
              rcases hat a hA with ⟨a0, h1, h2⟩ | h
              · exact .inl ⟨a0, h1, h2.symm⟩
              · exact .inr (by have := hkk.size; have := hkf.size; omega))
            exact ⟨(k + 1, A5, Ao, no, co, vals), ⟨rfl, rfl, rfl, rfl, trivial⟩, ⟨by omega, fin wh A5 _ hstep hst2⟩, by dsimp only; omega⟩
end Go.Proofs.YtpofkhjkdkkajaaDoor
