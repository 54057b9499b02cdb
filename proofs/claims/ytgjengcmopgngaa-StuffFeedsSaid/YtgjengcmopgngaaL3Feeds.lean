/-
  StuffFeeds: any bytes, in any parts, with any map and bound: the frames, part by part, and how many were dropped; any bytes stuffed. For every input.
-/
import Derived.Test.YtgjengcmopgngaaR3
import Derived.Test.YtgjengcmopgngaaSt8
import Derived.Test.YtgjengcmopgngaaRows
import Derived.Test.YtgjengcmopgngaaVl
namespace Go.Proofs.Ytgjengcmopgngaa
open Go V Go.ChangeShapes Go.WideShapes Go.ChangeAt Go.RowKit
open Go.ChangeMaps (open_string shut_string)

theorem stuffFeeds_ok (W : World) (m : BitVec 32) (most : Int) (hmost : -9223372036854775808 ≤ most ∧ most ≤ 9223372036854775807) (A : Option Addr) (n c : Nat) (va : List Value) (fs : List (List UInt8)) (hs : Sl W 1 A n va) (hels : Els W (fun k => k < W.heap.size) va fs)
    (hnc : n ≤ c) (hc : c ≤ 9223372036854775807) (hb : ∀ a, A = some a → 0 < n → a.block < W.heap.size) (hfl : ∀ f ∈ fs, f.length ≤ 9223372036854775807) :
    VC Try.prog 9 [vw m, .int .i64 most, .slice A n c] W (fun v w' => v = .bool true ∧ Keep No W w') := by
  have hl : fs.length = n := by rw [← hels.1]; exact hs.len
  refine VC.of tt_ok Try.func9 rfl (by decide +kernel) (Nat.le_of_ble_eq_true rfl) ?_; (conv => whnf)
  refine (awake_ok W).mono ?_
  rintro v w1 ⟨rfl, hk1⟩
  (conv => whnf)
  refine (small_ok w1 300 (hs.keepNo hk1) (hels.keep hk1 (fun _ _ => id))).mono ?_
  rintro v w' ⟨rfl, rfl⟩
  cases hsm : smallB fs 300 with
  | false =>
    (conv => whnf)
    exact ⟨rfl, hk1⟩
  | true =>
  unfold smallB at hsm
  rw [Bool.and_eq_true, decide_eq_true_iff, List.all_eq_true] at hsm
  obtain ⟨hn40, hf300'⟩ := hsm
  have hf300 : ∀ f ∈ fs, f.length ≤ 300 := fun f hf => of_decide_eq_true (hf300' f hf)
  (conv => whnf)
  refine (new_ok w1 m most hmost).mono ?_
  rintro v w2 (⟨hbad, rfl, hk2⟩ | ⟨q, rfl, q1, q2, rfl, hdf, hk2⟩)
  · (conv => whnf)
    refine VCmp.mk (fun h => ?_) (fun h => ?_) <;> (conv => whnf)
    · refine VCmp.mk (fun _ => ?_) (fun h => absurd rfl h)
      (conv => whnf)
      exact ⟨rfl, hk1.trans hk2⟩
    · refine VCmp.mk (fun h2 => ?_) (fun h2 => ?_) <;> first | (exfalso; omega) | (conv => whnf)
      refine VCmp.mk (fun _ => ?_) (fun h => absurd rfl h)
      (conv => whnf)
      exact ⟨rfl, hk1.trans hk2⟩
  (conv => whnf)
  (repeat' (first  | (refine VCmp.mk (fun h => ?_) (fun h => ?_) <;> first | (exfalso; omega) | (conv => whnf))  | (refine VRes.i64 (by omega) ?_; conv => whnf)  | (refine VReq.mk (by omega) ?_; conv => whnf)))
  refine VFill.by_ rfl ?_
  (conv => whnf)
  refine ⟨fun w3 hb3 hk3 => ?_⟩
  (conv => whnf)
  have hs1 := hk1.size
  have hs2 := hk2.size
  have hs3 := hk3.size
  have hdl := hdf.lt w1.heap.size (.inl rfl)
  have htw : Two W w3 w1.heap.size w2.heap.size none none ⟨m, q, [], false, false, 0⟩ ⟨m, q, [], false, 0⟩ 0 := by
    refine ⟨hdf.keepNo hk3, ⟨0, 0, hb3, Own.nil _ _ _ _⟩, ⟨rfl, rfl, by simp, by simp, rfl, rfl⟩, ⟨by dsimp only; omega, by dsimp only; omega, by simp, by simp⟩, ⟨by dsimp only; omega, by dsimp only; omega, by simp, by simp⟩, ?_, ?_, (hk1.trans hk2).trans hk3⟩
    · rintro i (h1 | ⟨_, h1, _⟩) (h2 | ⟨_, h2, _⟩)
      · omega
      · cases h2
      · cases h1
      · cases h1
    · rintro i ((h1 | ⟨_, h1, _⟩) | (h1 | ⟨_, h1, _⟩))
      · omega
      · cases h1
      · omega
      · cases h1
  refine VCmp.mk (fun h => absurd rfl h) (fun _ => ?_)
  (conv => whnf)
  refine VLoop.by_ tt_ok (S := Nat × Option Addr × Option Addr × Df × Rf) (fun | (i, _) => [(0, vw m), (2, .slice A n c), (7, .pointer (some ⟨w1.heap.size, 0, none⟩)), (9, .pointer (some ⟨w2.heap.size, 0, none⟩)), (10, .int .i64 i)])
    (fun | (i, A1, A2, s, r) => fun w' => i ≤ n ∧ Two W w' w1.heap.size w2.heap.size A1 A2 s r (300 * i)) (fun | (i, _) => n - i)
    (0, none, none, ⟨m, q, [], false, false, 0⟩, ⟨m, q, [], false, 0⟩) ⟨rfl, rfl, rfl, rfl, rfl, trivial⟩ ⟨Nat.zero_le _, htw⟩ ?_
  rintro ⟨i, A1, A2, s, r⟩ w4 ⟨hi, ht⟩
  (conv => whnf)
  refine VCmp.mk (fun h => ?_) (fun h => ?_) <;> (conv => whnf)
  · obtain ⟨x, hx⟩ : ∃ x, fs[i]? = some x := ⟨_, List.getElem?_eq_getElem (by omega)⟩
    have hx300 := hf300 x (List.mem_of_getElem? hx)
    obtain ⟨b1, o1, hA, hc1⟩ := (hs.keepNo ht.kp).at_ (by omega)
    obtain ⟨vx, hvx, Ax, cx, rfl, hcx, hsx, hXx⟩ := (hels.keep ht.kp (fun _ _ => id)).2 i x hx
    have hbA := hb ⟨b1, o1, none⟩ hA (by omega)
    refine VDraw.by_ tt_ok rfl (.take 0 (.take 1 (.take 2 (.take 3 (.take 4 (.take 6 (.take 7 (.take 8 (.take 9 (.take 10 (.one 5 (.one 11 (.one 12 (.take 13 (.take 14 (.take 15 (.take 17 (.take 18 (.take 19 (.take 20 (.one 16 (.take 21 (.take 22 (.take 23 (.take 24 (.take 25 (.take 26 (.take 27 (.take 28 (.take 30 (.take 31 (.take 32 (.take 33 (.take 34 (.one 29 (.one 35 (.one 36 (.take 37 (.take 38 .done))))))))))))))))))))))))))))))))))))))) (by decide +kernel) (fun x => Keep (fun k => W.heap.size ≤ k) w4 x) (fun x h1 h2 h3 h4 => (Keep.ofHeap h1 h2 h3 h4).mono (fun _ _ h => h.elim)) (fun wd hd kd => ?_)
    have hcell : ∀ y, Keep (fun k => W.heap.size ≤ k) w4 y → y.cell? ⟨b1, o1 + i, none⟩ = some (.slice Ax x.length cx) := fun y hy => hy.cell (hc1 i _ hvx) (by show ¬ _ ≤ b1; have : b1 < W.heap.size := hbA; omega)
    have htd := ht.keepNo kd
    have hkW := htd.kp.size
    (conv => whnf)
    refine VIdx.one i rfl (by omega) hA ?_
    (conv => whnf)
    refine VLoad.by_ hcell ?_
    (conv => whnf)
    refine VIdx.one i rfl (by omega) hA ?_
    (conv => whnf)
    refine VLoad.by_ hcell ?_
    (conv => whnf)
    have hsep : ∀ j, W.heap.size ≤ j → ∀ a, Ax = some a → 0 < x.length → a.block ≠ j := fun j hj a ha h0 => by have := hXx a ha h0; omega
    refine (feed_okE wd (D := 300 * i) htd.df htd.so (hsx.keepNo kd) (fun a ha h0 h2 => hsep _ (htd.lo _ (.inl h2)) a ha h0 rfl) (fun a ha h0 => Nat.lt_of_lt_of_le (hXx a ha h0) hkW) (by omega) (by omega)).mono ?_
    rintro v w5 ⟨A1', Ao, no, co, vals, rfl, hst⟩
    have kC5 : Keep (fun k => W.heap.size ≤ k) w4 w5 := (kd.mono (fun _ _ h => h.elim)).trans (hst.keep.mono (fun j _ hj => htd.lo j (.inl hj)))
    obtain ⟨hrf5, hkp5⟩ := htd.one hst
    (conv => whnf)
    refine VOwe.same kC5 ?_
    (conv => whnf)
    have hsx5 : Sl w5 1 Ax x.length (x.map vb) := (hsx.keepNo kd).keepP hst.keep (fun a ha h0 h2 => hsep _ (htd.lo _ (.inl h2)) a ha h0 rfl)
    refine (refFeed_ok w5 (D := 300 * i) hrf5 htd.ro hsx5 (fun a ha h0 h2 => hsep _ (htd.lo _ (.inr h2)) a ha h0 rfl) (by omega) (by omega)).mono ?_
    rintro v w6 ⟨A2', Ao2, no2, co2, vals2, rfl, hst2⟩
    obtain ⟨ht6, hso6, hels6⟩ := htd.both x hst hst2
    have kC6 : Keep (fun k => W.heap.size ≤ k) w4 w6 := kC5.trans (hst2.keep.mono (fun j _ hj => htd.lo j (.inr hj)))
    have hsx6 : Sl w6 1 Ax x.length (x.map vb) := hsx5.keepP hst2.keep (fun a ha h0 h2 => hsep _ (htd.lo _ (.inr h2)) a ha h0 rfl)
    have hfeq := (htd.rel.feed htd.ro.m0 x).2
    (conv => whnf)
    refine VOwe.to (fun y => Keep (fun k => W.heap.size ≤ k) w4 y ∧ y.cell? ⟨w2.heap.size, 4, none⟩ = some (.int .i64 (r.feed x).1.dropped)) (fun _ y hy => hy.1) ⟨kC6, rdropped_cell ht6.rf⟩ ?_
    (conv => whnf)
    have hno := hst.no_len
    have hno2 := hst2.no_len
    have hfl1 := Df.feed_len s x
    refine (frames_ok w6 hso6 hels6 (Sl.ofOwn hst2.out) hst2.els (by omega) (fun f hf => by have := Df.feed_each htd.so x f hf; omega)).mono ?_
    rintro v w7 ⟨rfl, hk7⟩
    rw [hfeq, decide_eq_true rfl]
    have ht7 := ht6.keepNo hk7
    (conv => whnf)
    refine VOwe.same ⟨kC6.trans (hk7.mono (fun _ _ h => h.elim)), rdropped_cell ht7.rf⟩ ?_
    (conv => whnf)
    refine VLoad.by_ (fun y hy => hy.2) ?_
    (conv => whnf)
    refine (dropped_ok w7 ht7.df).mono ?_
    rintro v w7 ⟨rfl, rfl⟩
    (conv => whnf)
    refine VOwe.same ⟨kC6.trans (hk7.mono (fun _ _ h => h.elim)), rdropped_cell ht7.rf⟩ ?_
    (conv => whnf)
    have hdr := ht7.rel.dropped
    refine VCmp.mk (fun h => absurd (congrArg (fun (k : Nat) => (k : Int)) hdr) h) (fun _ => ?_)
    (conv => whnf)
    refine VIdx.one i rfl (by omega) hA ?_
    (conv => whnf)
    refine VLoad.by_ (fun y hy => hcell y hy.1) ?_
    (conv => whnf)
    refine VIdx.one i rfl (by omega) hA ?_
    (conv => whnf)
    refine VLoad.by_ (fun y hy => hcell y hy.1) ?_
    (conv => whnf)
    have hsx7 := hsx6.keepNo hk7
    refine (stuff_ok w7 Ax x.length cx x m hsx7 (by omega)).mono ?_
    rintro v w8 ⟨A8, n8, c8, rfl, ho8, hk8⟩
    have ht8 := ht7.keepNo hk8
    have kC8 := (kC6.trans (hk7.mono (fun _ _ h => h.elim))).trans (hk8.mono (fun _ _ h => h.elim))
    (conv => whnf)
    refine VOwe.same ⟨kC8, rdropped_cell ht8.rf⟩ ?_
    (conv => whnf)
    refine (refStuff_ok w8 Ax x.length cx x m (hsx7.keepNo hk8) (by omega)).mono ?_
    rintro v w9 ⟨A9, n9, c9, rfl, ho9, hk9⟩
    have ht9 := ht8.keepNo hk9
    have kC9 := kC8.trans (hk9.mono (fun _ _ h => h.elim))
    (conv => whnf)
    refine VOwe.same ⟨kC9, rdropped_cell ht9.rf⟩ ?_
    (conv => whnf)
    have hsl := stuffed_len m x
    have hn8 := Own.len8 ho8
    refine (same_ok w9 (Sl.ofOwn (ho8.keepNo hk9)) (Sl.ofOwn ho9) (by omega)).mono ?_
    rintro v w10 ⟨rfl, hk10⟩
    rw [decide_eq_true rfl]
    have ht10 := ht9.keepNo hk10
    (conv => whnf)
    refine VOwe.same ⟨kC9.trans (hk10.mono (fun _ _ h => h.elim)), rdropped_cell ht10.rf⟩ ?_
    (conv => whnf)
    refine VRes.i64 (by omega) ?_
    (conv => whnf)
    refine ⟨(i + 1, A1', A2', (s.feed x).1, (r.feed x).1), ⟨rfl, rfl, rfl, rfl, rfl, trivial⟩, ⟨by omega, { ht10 with so := ?_, ro := ?_ }⟩, by dsimp only; omega⟩
    · have h1 := ht10.so
      exact ⟨h1.m0, h1.most, h1.b, by have := h1.d; omega⟩
    · have h1 := ht10.ro
      exact ⟨h1.m0, h1.most, by have := h1.b; omega, by have := h1.d; omega⟩
  · have hin : i = n := by omega
    subst hin
    refine (reset_ok w4 m ht.df ht.so.m0).mono ?_
    rintro v w5 ⟨rfl, hd5, hk5⟩
    have hrf5 : RfA w5 w2.heap.size A2 r := ht.rf.keep hk5 (fun j h e => ht.ap _ (.inl rfl) (e ▸ h))
    have kp5 : Keep No W w5 := ht.kp.toNo hk5 (fun j e => ht.lo j (.inl (.inl e)))
    have hok' : Df.Ok { s with accm := m, b := [], long := false, esc := false } (300 * i) := ⟨ht.so.m0, ht.so.most, Nat.zero_le _, ht.so.d⟩
    have hfb : (Df.feed { s with accm := m, b := [], long := false, esc := false } [0x20, 0x7e]).2 = [[0x20]] := feed_blank m s.most s.dropped ht.so.m0
    have hdr := ht.rel.dropped
    have hneR : ¬ fpt w1.heap.size none w2.heap.size := by
      rintro (h | ⟨_, h, _⟩)
      · exact ht.ap _ (.inl h) (.inl rfl)
      · cases h
    have hlo : ∀ j, fpt w1.heap.size none j → W.heap.size ≤ j := by
      rintro j (h | ⟨_, h, _⟩)
      · exact ht.lo j (.inl (.inl h))
      · cases h
    (conv => whnf)
    refine VDraw.by_ tt_ok rfl (.take 0 (.take 2 (.take 3 (.take 4 (.take 5 (.one 1 (.take 6 (.take 7 (.take 8 (.two 9 (.two 10 (.one 11 (.one 12 (.one 13 (.take 14 (.take 15 .done))))) 11 (.two 10 (.one 12 (.one 13 (.take 14 (.take 15 .done)))) 12 (.one 10 (.one 13 (.take 14 (.take 15 .done)))))) 11 (.two 9 (.two 10 (.one 12 (.one 13 (.take 14 (.take 15 .done)))) 12 (.one 10 (.one 13 (.take 14 (.take 15 .done))))) 12 (.one 9 (.one 10 (.one 13 (.take 14 (.take 15 .done)))))))))))))))) (by decide +kernel) (fun y => y.cell? ⟨w2.heap.size, 4, none⟩ = some (.int .i64 r.dropped)) (fun y h1 h2 h3 h4 => (Keep.ofHeap h1 h2 h3 h4).cell (rdropped_cell hrf5) id) (fun wd hd0 kd => ?_)
    have hd := hd5.keepNo kd
    have cel := rdropped_cell (hrf5.keepNo kd)
    have kp := kp5.trans kd
    have dlt := hd.lt w1.heap.size (.inl rfl)
    (conv => whnf)
    refine VLoad.by_ (fun y hy => hy) ?_
    (conv => whnf)
    refine (dropped_ok wd hd).mono ?_
    rintro v wd ⟨rfl, rfl⟩
    (conv => whnf)
    refine VOwe.same cel ?_
    (conv => whnf)
    refine VCmp.mk (fun _ => ?_) (fun h => absurd (congrArg (fun (k : Nat) => (k : Int)) hdr) h)
    (conv => whnf)
    refine ⟨?_, ?_⟩
    · skip
      refine VFill.by_ rfl ?_
      (conv => whnf)
      refine ⟨fun wx hnew hkx => ?_⟩
      have cel := hkx.cell cel id
      have hd := hd.keepNo hkx
      have kp := kp.trans hkx
      have h9 := hnew
      have ne9 : ∀ b, b = _ → ¬ fpt w1.heap.size none b := fun b e h => by rcases h with h | ⟨_, h, _⟩; (· exact absurd (e.symm.trans h) (Nat.ne_of_gt dlt)); cases h
      have dlt := Nat.lt_of_lt_of_le dlt hkx.size
      (conv => whnf)
      refine VOwe.same cel ?_
      (conv => whnf)
      refine ⟨?_, ?_⟩
      · skip
        refine (feed_okE (l := [0x20, 0x7e]) (m := 2) _ (D := 300 * i) hd hok' (Sl.ofBlk (n := 2) (size := 1) (xs := ([0x20, 0x7e] : List UInt8).map vb) h9 rfl) (fun a ha _ => by cases ha; exact ne9 _ rfl) (fun a ha _ => by cases ha; exact Blk.lt h9) (by omega) (by omega)).mono ?_
        rintro v wx ⟨Af, Ao, no, co, vals, rfl, hst⟩
        have hno := hst.no_len
        have hout := Sl.ofOwn hst.out
        have hels9 := hst.els
        rw [hfb] at hno hels9
        have cel := hst.keep.cell cel hneR
        have kp := kp.toNo hst.keep hlo
        have h9 := Blk.keep h9 hst.keep (ne9 _ rfl)
        have dlt := Nat.lt_of_lt_of_le dlt hst.keep.size
        (conv => whnf)
        refine VOwe.same cel ?_
        (conv => whnf)
        refine VFill.by_ rfl ?_
        (conv => whnf)
        refine ⟨fun wx hnew hkx => ?_⟩
        have cel := hkx.cell cel id
        have h9 := Blk.keep h9 hkx id
        have hout := hout.keepNo hkx
        have hels9 := hels9.keep hkx (fun _ _ => id)
        have kp := kp.trans hkx
        have h11 := hnew
        have ne11 : ∀ b, b = _ → ¬ fpt w1.heap.size none b := fun b e h => by rcases h with h | ⟨_, h, _⟩; (· exact absurd (e.symm.trans h) (Nat.ne_of_gt dlt)); cases h
        have dlt := Nat.lt_of_lt_of_le dlt hkx.size
        (conv => whnf)
        refine VOwe.same cel ?_
        (conv => whnf)
        refine VFill.by_ rfl ?_
        (conv => whnf)
        refine ⟨fun wx hnew hkx => ?_⟩
        have cel := hkx.cell cel id
        have h9 := Blk.keep h9 hkx id
        have h11 := Blk.keep h11 hkx id
        have hout := hout.keepNo hkx
        have hels9 := hels9.keep hkx (fun _ _ => id)
        have kp := kp.trans hkx
        have h12 := hnew
        have ne12 : ∀ b, b = _ → ¬ fpt w1.heap.size none b := fun b e h => by rcases h with h | ⟨_, h, _⟩; (· exact absurd (e.symm.trans h) (Nat.ne_of_gt dlt)); cases h
        have dlt := Nat.lt_of_lt_of_le dlt hkx.size
        (conv => whnf)
        refine VOwe.same cel ?_
        (conv => whnf)
        refine (frames_ok _ hout hels9 (Sl.ofBlk (n := 1) (size := 1) h12 rfl) (els_one (l := [0x20]) (Sl.ofBlk (n := 1) (size := 1) (xs := ([0x20] : List UInt8).map vb) h11 rfl) (Nat.le_refl _)) (by rw [hno]; decide) (fun f hf => by rw [List.mem_singleton.1 hf]; decide)).mono ?_
        rintro v wz ⟨rfl, hkz⟩
        rw [decide_eq_true rfl]
        have cel := hkz.cell cel id
        (conv => whnf)
        refine VOwe.same cel ?_
        (conv => whnf)
        exact ⟨rfl, kp.trans hkz⟩
      · skip
        refine VFill.by_ rfl ?_
        (conv => whnf)
        refine ⟨fun wx hnew hkx => ?_⟩
        have cel := hkx.cell cel id
        have h9 := Blk.keep h9 hkx id
        have hd := hd.keepNo hkx
        have kp := kp.trans hkx
        have h11 := hnew
        have ne11 : ∀ b, b = _ → ¬ fpt w1.heap.size none b := fun b e h => by rcases h with h | ⟨_, h, _⟩; (· exact absurd (e.symm.trans h) (Nat.ne_of_gt dlt)); cases h
        have dlt := Nat.lt_of_lt_of_le dlt hkx.size
        (conv => whnf)
        refine VOwe.same cel ?_
        (conv => whnf)
        refine ⟨?_, ?_⟩
        · skip
          refine (feed_okE (l := [0x20, 0x7e]) (m := 2) _ (D := 300 * i) hd hok' (Sl.ofBlk (n := 2) (size := 1) (xs := ([0x20, 0x7e] : List UInt8).map vb) h9 rfl) (fun a ha _ => by cases ha; exact ne9 _ rfl) (fun a ha _ => by cases ha; exact Blk.lt h9) (by omega) (by omega)).mono ?_
          rintro v wx ⟨Af, Ao, no, co, vals, rfl, hst⟩
          have hno := hst.no_len
          have hout := Sl.ofOwn hst.out
          have hels9 := hst.els
          rw [hfb] at hno hels9
          have cel := hst.keep.cell cel hneR
          have kp := kp.toNo hst.keep hlo
          have h9 := Blk.keep h9 hst.keep (ne9 _ rfl)
          have h11 := Blk.keep h11 hst.keep (ne11 _ rfl)
          have dlt := Nat.lt_of_lt_of_le dlt hst.keep.size
          (conv => whnf)
          refine VOwe.same cel ?_
          (conv => whnf)
          refine VFill.by_ rfl ?_
          (conv => whnf)
          refine ⟨fun wx hnew hkx => ?_⟩
          have cel := hkx.cell cel id
          have h9 := Blk.keep h9 hkx id
          have h11 := Blk.keep h11 hkx id
          have hout := hout.keepNo hkx
          have hels9 := hels9.keep hkx (fun _ _ => id)
          have kp := kp.trans hkx
          have h12 := hnew
          have ne12 : ∀ b, b = _ → ¬ fpt w1.heap.size none b := fun b e h => by rcases h with h | ⟨_, h, _⟩; (· exact absurd (e.symm.trans h) (Nat.ne_of_gt dlt)); cases h
          have dlt := Nat.lt_of_lt_of_le dlt hkx.size
          (conv => whnf)
          refine VOwe.same cel ?_
          (conv => whnf)
          refine (frames_ok _ hout hels9 (Sl.ofBlk (n := 1) (size := 1) h12 rfl) (els_one (l := [0x20]) (Sl.ofBlk (n := 1) (size := 1) (xs := ([0x20] : List UInt8).map vb) h11 rfl) (Nat.le_refl _)) (by rw [hno]; decide) (fun f hf => by rw [List.mem_singleton.1 hf]; decide)).mono ?_
          rintro v wz ⟨rfl, hkz⟩
          rw [decide_eq_true rfl]
          have cel := hkz.cell cel id
          (conv => whnf)
          refine VOwe.same cel ?_
          (conv => whnf)
          exact ⟨rfl, kp.trans hkz⟩
        · skip
          refine VFill.by_ rfl ?_
          (conv => whnf)
          refine ⟨fun wx hnew hkx => ?_⟩
          have cel := hkx.cell cel id
          have h9 := Blk.keep h9 hkx id
          have h11 := Blk.keep h11 hkx id
          have hd := hd.keepNo hkx
          have kp := kp.trans hkx
          have h12 := hnew
          have ne12 : ∀ b, b = _ → ¬ fpt w1.heap.size none b := fun b e h => by rcases h with h | ⟨_, h, _⟩; (· exact absurd (e.symm.trans h) (Nat.ne_of_gt dlt)); cases h
          have dlt := Nat.lt_of_lt_of_le dlt hkx.size
          (conv => whnf)
          refine VOwe.same cel ?_
          (conv => whnf)
          refine (feed_okE (l := [0x20, 0x7e]) (m := 2) _ (D := 300 * i) hd hok' (Sl.ofBlk (n := 2) (size := 1) (xs := ([0x20, 0x7e] : List UInt8).map vb) h9 rfl) (fun a ha _ => by cases ha; exact ne9 _ rfl) (fun a ha _ => by cases ha; exact Blk.lt h9) (by omega) (by omega)).mono ?_
          rintro v wx ⟨Af, Ao, no, co, vals, rfl, hst⟩
          have hno := hst.no_len
          have hout := Sl.ofOwn hst.out
          have hels9 := hst.els
          rw [hfb] at hno hels9
          have cel := hst.keep.cell cel hneR
          have kp := kp.toNo hst.keep hlo
          have h9 := Blk.keep h9 hst.keep (ne9 _ rfl)
          have h11 := Blk.keep h11 hst.keep (ne11 _ rfl)
          have h12 := Blk.keep h12 hst.keep (ne12 _ rfl)
          have dlt := Nat.lt_of_lt_of_le dlt hst.keep.size
          (conv => whnf)
          refine VOwe.same cel ?_
          (conv => whnf)
          refine (frames_ok _ hout hels9 (Sl.ofBlk (n := 1) (size := 1) h12 rfl) (els_one (l := [0x20]) (Sl.ofBlk (n := 1) (size := 1) (xs := ([0x20] : List UInt8).map vb) h11 rfl) (Nat.le_refl _)) (by rw [hno]; decide) (fun f hf => by rw [List.mem_singleton.1 hf]; decide)).mono ?_
          rintro v wz ⟨rfl, hkz⟩
          rw [decide_eq_true rfl]
          have cel := hkz.cell cel id
          (conv => whnf)
          refine VOwe.same cel ?_
          (conv => whnf)
          exact ⟨rfl, kp.trans hkz⟩
    · skip
      refine VFill.by_ rfl ?_
      (conv => whnf)
      refine ⟨fun wx hnew hkx => ?_⟩
      have cel := hkx.cell cel id
      have hd := hd.keepNo hkx
      have kp := kp.trans hkx
      have h11 := hnew
      have ne11 : ∀ b, b = _ → ¬ fpt w1.heap.size none b := fun b e h => by rcases h with h | ⟨_, h, _⟩; (· exact absurd (e.symm.trans h) (Nat.ne_of_gt dlt)); cases h
      have dlt := Nat.lt_of_lt_of_le dlt hkx.size
      (conv => whnf)
      refine VOwe.same cel ?_
      (conv => whnf)
      refine ⟨?_, ?_⟩
      · skip
        refine VFill.by_ rfl ?_
        (conv => whnf)
        refine ⟨fun wx hnew hkx => ?_⟩
        have cel := hkx.cell cel id
        have h11 := Blk.keep h11 hkx id
        have hd := hd.keepNo hkx
        have kp := kp.trans hkx
        have h9 := hnew
        have ne9 : ∀ b, b = _ → ¬ fpt w1.heap.size none b := fun b e h => by rcases h with h | ⟨_, h, _⟩; (· exact absurd (e.symm.trans h) (Nat.ne_of_gt dlt)); cases h
        have dlt := Nat.lt_of_lt_of_le dlt hkx.size
        (conv => whnf)
        refine VOwe.same cel ?_
        (conv => whnf)
        refine ⟨?_, ?_⟩
        · skip
          refine (feed_okE (l := [0x20, 0x7e]) (m := 2) _ (D := 300 * i) hd hok' (Sl.ofBlk (n := 2) (size := 1) (xs := ([0x20, 0x7e] : List UInt8).map vb) h9 rfl) (fun a ha _ => by cases ha; exact ne9 _ rfl) (fun a ha _ => by cases ha; exact Blk.lt h9) (by omega) (by omega)).mono ?_
          rintro v wx ⟨Af, Ao, no, co, vals, rfl, hst⟩
          have hno := hst.no_len
          have hout := Sl.ofOwn hst.out
          have hels9 := hst.els
          rw [hfb] at hno hels9
          have cel := hst.keep.cell cel hneR
          have kp := kp.toNo hst.keep hlo
          have h9 := Blk.keep h9 hst.keep (ne9 _ rfl)
          have h11 := Blk.keep h11 hst.keep (ne11 _ rfl)
          have dlt := Nat.lt_of_lt_of_le dlt hst.keep.size
          (conv => whnf)
          refine VOwe.same cel ?_
          (conv => whnf)
          refine VFill.by_ rfl ?_
          (conv => whnf)
          refine ⟨fun wx hnew hkx => ?_⟩
          have cel := hkx.cell cel id
          have h9 := Blk.keep h9 hkx id
          have h11 := Blk.keep h11 hkx id
          have hout := hout.keepNo hkx
          have hels9 := hels9.keep hkx (fun _ _ => id)
          have kp := kp.trans hkx
          have h12 := hnew
          have ne12 : ∀ b, b = _ → ¬ fpt w1.heap.size none b := fun b e h => by rcases h with h | ⟨_, h, _⟩; (· exact absurd (e.symm.trans h) (Nat.ne_of_gt dlt)); cases h
          have dlt := Nat.lt_of_lt_of_le dlt hkx.size
          (conv => whnf)
          refine VOwe.same cel ?_
          (conv => whnf)
          refine (frames_ok _ hout hels9 (Sl.ofBlk (n := 1) (size := 1) h12 rfl) (els_one (l := [0x20]) (Sl.ofBlk (n := 1) (size := 1) (xs := ([0x20] : List UInt8).map vb) h11 rfl) (Nat.le_refl _)) (by rw [hno]; decide) (fun f hf => by rw [List.mem_singleton.1 hf]; decide)).mono ?_
          rintro v wz ⟨rfl, hkz⟩
          rw [decide_eq_true rfl]
          have cel := hkz.cell cel id
          (conv => whnf)
          refine VOwe.same cel ?_
          (conv => whnf)
          exact ⟨rfl, kp.trans hkz⟩
        · skip
          refine VFill.by_ rfl ?_
          (conv => whnf)
          refine ⟨fun wx hnew hkx => ?_⟩
          have cel := hkx.cell cel id
          have h9 := Blk.keep h9 hkx id
          have h11 := Blk.keep h11 hkx id
          have hd := hd.keepNo hkx
          have kp := kp.trans hkx
          have h12 := hnew
          have ne12 : ∀ b, b = _ → ¬ fpt w1.heap.size none b := fun b e h => by rcases h with h | ⟨_, h, _⟩; (· exact absurd (e.symm.trans h) (Nat.ne_of_gt dlt)); cases h
          have dlt := Nat.lt_of_lt_of_le dlt hkx.size
          (conv => whnf)
          refine VOwe.same cel ?_
          (conv => whnf)
          refine (feed_okE (l := [0x20, 0x7e]) (m := 2) _ (D := 300 * i) hd hok' (Sl.ofBlk (n := 2) (size := 1) (xs := ([0x20, 0x7e] : List UInt8).map vb) h9 rfl) (fun a ha _ => by cases ha; exact ne9 _ rfl) (fun a ha _ => by cases ha; exact Blk.lt h9) (by omega) (by omega)).mono ?_
          rintro v wx ⟨Af, Ao, no, co, vals, rfl, hst⟩
          have hno := hst.no_len
          have hout := Sl.ofOwn hst.out
          have hels9 := hst.els
          rw [hfb] at hno hels9
          have cel := hst.keep.cell cel hneR
          have kp := kp.toNo hst.keep hlo
          have h9 := Blk.keep h9 hst.keep (ne9 _ rfl)
          have h11 := Blk.keep h11 hst.keep (ne11 _ rfl)
          have h12 := Blk.keep h12 hst.keep (ne12 _ rfl)
          have dlt := Nat.lt_of_lt_of_le dlt hst.keep.size
          (conv => whnf)
          refine VOwe.same cel ?_
          (conv => whnf)
          refine (frames_ok _ hout hels9 (Sl.ofBlk (n := 1) (size := 1) h12 rfl) (els_one (l := [0x20]) (Sl.ofBlk (n := 1) (size := 1) (xs := ([0x20] : List UInt8).map vb) h11 rfl) (Nat.le_refl _)) (by rw [hno]; decide) (fun f hf => by rw [List.mem_singleton.1 hf]; decide)).mono ?_
          rintro v wz ⟨rfl, hkz⟩
          rw [decide_eq_true rfl]
          have cel := hkz.cell cel id
          (conv => whnf)
          refine VOwe.same cel ?_
          (conv => whnf)
          exact ⟨rfl, kp.trans hkz⟩
      · skip
        refine VFill.by_ rfl ?_
        (conv => whnf)
        refine ⟨fun wx hnew hkx => ?_⟩
        have cel := hkx.cell cel id
        have h11 := Blk.keep h11 hkx id
        have hd := hd.keepNo hkx
        have kp := kp.trans hkx
        have h12 := hnew
        have ne12 : ∀ b, b = _ → ¬ fpt w1.heap.size none b := fun b e h => by rcases h with h | ⟨_, h, _⟩; (· exact absurd (e.symm.trans h) (Nat.ne_of_gt dlt)); cases h
        have dlt := Nat.lt_of_lt_of_le dlt hkx.size
        (conv => whnf)
        refine VOwe.same cel ?_
        (conv => whnf)
        refine VFill.by_ rfl ?_
        (conv => whnf)
        refine ⟨fun wx hnew hkx => ?_⟩
        have cel := hkx.cell cel id
        have h11 := Blk.keep h11 hkx id
        have h12 := Blk.keep h12 hkx id
        have hd := hd.keepNo hkx
        have kp := kp.trans hkx
        have h9 := hnew
        have ne9 : ∀ b, b = _ → ¬ fpt w1.heap.size none b := fun b e h => by rcases h with h | ⟨_, h, _⟩; (· exact absurd (e.symm.trans h) (Nat.ne_of_gt dlt)); cases h
        have dlt := Nat.lt_of_lt_of_le dlt hkx.size
        (conv => whnf)
        refine VOwe.same cel ?_
        (conv => whnf)
        refine (feed_okE (l := [0x20, 0x7e]) (m := 2) _ (D := 300 * i) hd hok' (Sl.ofBlk (n := 2) (size := 1) (xs := ([0x20, 0x7e] : List UInt8).map vb) h9 rfl) (fun a ha _ => by cases ha; exact ne9 _ rfl) (fun a ha _ => by cases ha; exact Blk.lt h9) (by omega) (by omega)).mono ?_
        rintro v wx ⟨Af, Ao, no, co, vals, rfl, hst⟩
        have hno := hst.no_len
        have hout := Sl.ofOwn hst.out
        have hels9 := hst.els
        rw [hfb] at hno hels9
        have cel := hst.keep.cell cel hneR
        have kp := kp.toNo hst.keep hlo
        have h9 := Blk.keep h9 hst.keep (ne9 _ rfl)
        have h11 := Blk.keep h11 hst.keep (ne11 _ rfl)
        have h12 := Blk.keep h12 hst.keep (ne12 _ rfl)
        have dlt := Nat.lt_of_lt_of_le dlt hst.keep.size
        (conv => whnf)
        refine VOwe.same cel ?_
        (conv => whnf)
        refine (frames_ok _ hout hels9 (Sl.ofBlk (n := 1) (size := 1) h12 rfl) (els_one (l := [0x20]) (Sl.ofBlk (n := 1) (size := 1) (xs := ([0x20] : List UInt8).map vb) h11 rfl) (Nat.le_refl _)) (by rw [hno]; decide) (fun f hf => by rw [List.mem_singleton.1 hf]; decide)).mono ?_
        rintro v wz ⟨rfl, hkz⟩
        rw [decide_eq_true rfl]
        have cel := hkz.cell cel id
        (conv => whnf)
        refine VOwe.same cel ?_
        (conv => whnf)
        exact ⟨rfl, kp.trans hkz⟩

/-! ### The statement -/
theorem stuffFeeds_own : ownKnob Try.prog.godebug = none := by kernel_rfl
theorem stuffFeeds_laid : laidOutB Try.prog = true := by kernel_rfl
set_option maxRecDepth 100000 in
theorem stuffFeeds_lifted (os : Os) (started : os.Started) (H : Type) (enc : TypeId × Value → H) :
    ReturnsInHanded {} Try.checked os 9 .any (Rows.stuffFeedsSpec.pre6 enc Try.prog Try.f9 Rows.stuffFeedsRow.domain false) (Rows.stuffFeedsSpec.post enc Try.prog Try.f9 false true false false) := by
  refine returnsInHanded_of_change (C := Try.checked) stuffFeeds_own started (by kernel_rfl) Try.func9
    (ChangeSpec.witness6 (enc := enc) (C := Try.checked) false ⟨#[], #[.int .u32 0, .int .i64 0, .slice none 0 0], []⟩ 8 (by kernel_rfl) (by kernel_rfl) (by kernel_rfl) (by kernel_rfl)) ?_
  intro W base args ds gs before hval0 hW hcnd _
  have hval : ∀ (j : Nat) t v, Try.f9.params[j]? = some t → args[j]? = some v → Value.okWide Try.prog W .any base t v := hval0
  have hW' := hW
  obtain ⟨p, q, hA0, hV, rfl, hfz, hnd⟩ := hW
  have hA : DataW.TrodAll enc Try.prog W 0 (fun _ => true) true Try.f9.params.toList args.toList ds p := hA0
  rw [Try.params9] at hA hval
  obtain ⟨v0, vs0, d0, ds0, p0, q0, hargs, rfl, rfl, h0, r0⟩ := trodAll_cons hA
  obtain ⟨v1, vs1, d1, ds1, p1, q1, rfl, rfl, rfl, h1, r1⟩ := trodAll_cons r0
  obtain ⟨v2, vs2, d2, ds2, p2, q2, rfl, rfl, rfl, h2, r2⟩ := trodAll_cons r1
  obtain ⟨rfl, rfl, rfl⟩ := trodAll_nil r2
  obtain rfl : args = #[v0, v1, v2] := by cases args; simp_all
  obtain ⟨rfl, rfl⟩ := trodVars_none hV
  have k0 := h0
  have lt0 : ∀ x ∈ p0, x.block < W.heap.size := by obtain ⟨m, hm⟩ := k0; exact DataW.trod_lt m _ _ _ hm
  obtain ⟨a0, rfl, rfl, rfl, w0⟩ := open_int Try.underlying23 (hval 0 23 v0 rfl rfl) h0
  obtain ⟨m0, rfl⟩ := word_of w0
  have k1 := h1
  have lt1 : ∀ x ∈ p1, x.block < W.heap.size := by obtain ⟨m, hm⟩ := k1; exact DataW.trod_lt m _ _ _ hm
  obtain ⟨a1, rfl, rfl, rfl, w1⟩ := open_int Try.underlying3 (hval 1 3 v1 rfl rfl) h1
  have k2 := h2
  have lt2 : ∀ x ∈ p2, x.block < W.heap.size := by obtain ⟨m, hm⟩ := k2; exact DataW.trod_lt m _ _ _ hm
  obtain ⟨aa2, la2, ca2, rfl⟩ := okWide_slice Try.underlying32 (hval 2 32 v2 rfl rfl)
  obtain ⟨fuel2, hf2⟩ := h2
  obtain ⟨A2, n2, c2, va2, l2, e2, s2, el2, nc2, cc2, b2, fl2⟩ := open_rows Try.underlying32 (by kernel_rfl) Try.underlying22 Try.underlying5 (by kernel_rfl) hf2
  cases e2
  clear hA0 hval0
  refine (VC.law (stuffFeeds_ok W m0 a1 (int_of w1) aa2 la2 ca2 va2 l2 s2 el2 nc2 cc2 b2 fl2)).mono fun e W' ⟨he, bel⟩ => ?_
  subst he
  exact ⟨_, rfl, _, _, _, [], _, [], hW', trodAll_mk1 (shut_bool Try.underlying4 _), (trodAll_cons_mk (Below.trod stuffFeeds_laid (by kernel_rfl) (of_decide_eq_true (by kernel_rfl)) k0 bel lt0) (trodAll_cons_mk (Below.trod stuffFeeds_laid (by kernel_rfl) (of_decide_eq_true (by kernel_rfl)) k1 bel lt1) (trodAll_cons_mk (Below.trod stuffFeeds_laid (by kernel_rfl) (of_decide_eq_true (by kernel_rfl)) k2 bel lt2) trodAll_mk0))), rfl, bel.frame _, fun h => by cases h⟩

theorem stuffFeeds_over : Rows.stuffFeedsRow.holds Try.pinned (OpenSpec.ofChange Rows.stuffFeedsSpec) :=
  OpenClaim.holds_of_wide 9 Try.f9 rfl rfl rfl rfl rfl rfl rfl ⟨rfl, rfl, rfl, rfl, rfl⟩ rfl rfl rfl rfl rfl (by kernel_rfl) Try.func9 (by kernel_rfl)
    (of_decide_eq_true (by kernel_rfl)) (by unfold Func.isWrapper; first | (rw [if_pos (by decide +kernel)]; kernel_rfl) | (rw [if_neg (by decide +kernel)]; exact ⟨rfl, rfl⟩))
    (fun os started H enc _ => stuffFeeds_lifted os started H enc)

theorem stuffFeeds_proved : Rows.StuffFeedsSaid := stuffFeeds_over
#print axioms stuffFeeds_proved
end Go.Proofs.Ytgjengcmopgngaa
