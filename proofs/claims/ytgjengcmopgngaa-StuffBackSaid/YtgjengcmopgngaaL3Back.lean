/-
  StuffBack: frames that are stuffed one behind the other, with any map that covers the other end's, behind whatever ends with a flag, are told as they are; none of their bytes is a flag, or one that is mapped. For every input.
-/
import Derived.Test.YtgjengcmopgngaaSt9
import Derived.Test.YtgjengcmopgngaaSt6
import Derived.Test.YtgjengcmopgngaaRows
import Derived.Test.YtgjengcmopgngaaVl
namespace Go.Proofs.Ytgjengcmopgngaa
open Go V Go.ChangeShapes Go.WideShapes Go.ChangeAt Go.RowKit
open Go.ChangeMaps (open_string shut_string)

theorem bit_iff (m : BitVec 32) (k : Nat) : ((m >>> k) &&& 1#32 == 1#32) = m.getLsbD k := by
  have h1 : ((m >>> k) &&& 1#32).toNat = (m.toNat >>> k) % 2 := by
    rw [BitVec.toNat_and, BitVec.toNat_ushiftRight]
    exact Nat.and_one_is_mod _
  have h2 : m.getLsbD k = decide ((m.toNat >>> k) % 2 = 1) := by
    rw [BitVec.getLsbD, Nat.testBit_eq_decide_div_mod_eq, Nat.shiftRight_eq_div_pow]
  rw [h2]
  by_cases h : (m.toNat >>> k) % 2 = 1
  · rw [decide_eq_true h]
    exact beq_iff_eq.2 (BitVec.eq_of_toNat_eq (by rw [h1, h]; rfl))
  · rw [decide_eq_false h]
    refine beq_eq_false_iff_ne.2 (fun e => h ?_)
    rw [← h1, e]; rfl

theorem mapB_and (c : UInt8) (m k : BitVec 32) (h : mapB c (m &&& k) = true) : mapB c m = true := by
  unfold mapB at *
  rw [bit_iff] at *
  rw [BitVec.getLsbD_and] at h
  simp only [Bool.and_eq_true] at *
  exact ⟨h.1, h.2.1⟩

theorem high_map (m : BitVec 32) (y : UInt8) (h : ¬ y.toNat < 32) : mapB y m = false := by
  unfold mapB
  rw [decide_eq_false h, Bool.false_and]

theorem low_high (c : UInt8) (h : c.toNat < 32) : ¬ (c ^^^ 0x20).toNat < 32 := by
  have key : ∀ n : Fin 32, ¬ (UInt8.ofNat n.val ^^^ 0x20).toNat < 32 := by decide
  have := key ⟨c.toNat, h⟩
  simpa using this

theorem esc_map (m : BitVec 32) (c : UInt8) (h : escB m c = true) : mapB (c ^^^ 0x20) m = false := by
  refine high_map m _ ?_
  unfold escB at h
  rw [Bool.or_eq_true, Bool.or_eq_true] at h
  rcases h with h | h | h
  · have : c = 0x7e := by simpa using h
    subst this; decide
  · have : c = 0x7d := by simpa using h
    subst this; decide
  · unfold mapB at h
    rw [Bool.and_eq_true] at h
    exact low_high c (of_decide_eq_true h.1)

/-- None of what stands between the flags is a flag, or mapped. -/
theorem stuffL_quiet (m : BitVec 32) (l : List UInt8) : ∀ y ∈ stuffL m l, y ≠ 0x7e ∧ mapB y m = false := by
  intro y hy
  unfold stuffL at hy
  obtain ⟨c, _, hc⟩ := List.mem_flatMap.1 hy
  cases he : escB m c with
  | true =>
    rw [he] at hc
    have : y = 0x7d ∨ y = c ^^^ 0x20 := by simpa using hc
    rcases this with rfl | rfl
    · exact ⟨by decide, high_map m _ (by decide)⟩
    · exact ⟨esc_ne m c he, esc_map m c he⟩
  | false =>
    rw [he] at hc
    obtain rfl : y = c := by simpa using hc
    unfold escB at he
    rw [Bool.or_eq_false_iff, Bool.or_eq_false_iff] at he
    exact ⟨by simpa using he.1, he.2.2⟩

theorem stuffed_get (m : BitVec 32) (l : List UInt8) (k : Nat) (h1 : 1 ≤ k) (h2 : k + 1 < (stuffed m l).length) : ∃ y, (stuffed m l)[k]? = some y ∧ y ≠ 0x7e ∧ mapB y m = false := by
  have hlen : (stuffed m l).length = (stuffL m l).length + 2 := by simp [stuffed]
  obtain ⟨j, rfl⟩ : ∃ j, k = j + 1 := ⟨k - 1, by omega⟩
  have hk : j < (stuffL m l).length := by omega
  refine ⟨(stuffL m l)[j], ?_, stuffL_quiet m l _ (List.getElem_mem hk)⟩
  unfold stuffed
  rw [List.cons_append, List.getElem?_cons_succ, List.getElem?_append_left (by omega), List.getElem?_eq_getElem (by omega)]

def allStuffed (m : BitVec 32) (ls : List (List UInt8)) : List UInt8 := ls.flatMap (stuffed m)
def wanted (ls : List (List UInt8)) : List (List UInt8) := ls.filter fun f => decide (0 < f.length)

theorem Df.feed_all (m : BitVec 32) (s : Df) (hs : s.clean) (hm : ∀ c, mapB c s.accm = true → mapB c m = true) : ∀ (ls : List (List UInt8)), (∀ f ∈ ls, f.length ≤ s.most) → s.feed (allStuffed m ls) = (s, wanted ls)
  | [], _ => rfl
  | f :: ls, h => by
    have e : allStuffed m (f :: ls) = stuffed m f ++ allStuffed m ls := by simp [allStuffed]
    rw [e, Df.feed_append, Df.feed_stuffed m f s hs hm (h f (by simp))]
    dsimp only
    rw [Df.feed_all m s hs hm ls (fun g hg => h g (by simp [hg]))]
    cases f <;> simp [wanted]

theorem Df.feed_first (a : BitVec 32) : (Df.feed ⟨a, 300, [], false, false, 0⟩ [9, 0x7d, 7, 0x7e]).1 = ⟨a, 300, [], false, false, 0⟩ := by
  simp only [Df.feed, Df.step]
  cases h : mapB 9 a <;> simp [Df.add, Df.fin, h]

theorem stuffBack_ok (W : World) (m less : BitVec 32) (A : Option Addr) (n c : Nat) (va : List Value) (ls : List (List UInt8)) (hs : Sl W 1 A n va) (hels : Els W (fun k => k < W.heap.size) va ls) (hnc : n ≤ c) (_ : c ≤ 9223372036854775807) (hbA : ∀ a, A = some a → 0 < n → a.block < W.heap.size) (_ : ∀ f ∈ ls, f.length ≤ 9223372036854775807) :
    VC Try.prog 6 [vw m, vw less, .slice A n c] W (fun v w' => v = .bool true ∧ Keep No W w') := by
  have hl : ls.length = n := by rw [← hels.1]; exact hs.len
  refine VC.of tt_ok Try.func6 rfl (by decide +kernel) (Nat.le_of_ble_eq_true rfl) ?_; (conv => whnf)
  refine (awake_ok W).mono ?_
  rintro v w1 ⟨rfl, hk1⟩
  (conv => whnf)
  refine (small_ok w1 300 (hs.keepNo hk1) (hels.keep hk1 (fun _ _ => id))).mono ?_
  rintro v w1' ⟨rfl, rfl⟩
  cases hsm : smallB ls 300 <;> (conv => whnf)
  · exact ⟨rfl, hk1⟩
  have hsm' : ls.length ≤ 40 ∧ ∀ f ∈ ls, f.length ≤ 300 := by
    unfold smallB at hsm
    rw [Bool.and_eq_true, List.all_eq_true] at hsm
    exact ⟨of_decide_eq_true hsm.1, fun f hf => of_decide_eq_true (hsm.2 f hf)⟩
  obtain ⟨h40, h300⟩ := hsm'
  refine VRes.and32 rfl ?_
  (conv => whnf)
  refine (new_ok _ (m &&& less) 300 (by omega)).mono ?_
  rintro v w2 (⟨h, _⟩ | ⟨q, hq, q1, q2, rfl, hdf, hk2⟩)
  · omega
  obtain rfl : q = 300 := by omega
  (conv => whnf)
  (repeat' (first  | (refine VCmp.mk (fun h => ?_) (fun h => ?_) <;> first | (exfalso; omega) | (conv => whnf))  | (refine VRes.i64 (by omega) ?_; conv => whnf)  | (refine VReq.mk (by omega) ?_; conv => whnf)))
  refine VFill.by_ rfl ?_
  (conv => whnf)
  refine ⟨fun w3 hb3 hk3 => ?_⟩
  (conv => whnf)
  have hdlt := hdf.lt _ (.inl rfl)
  refine (feed_ok (D := 0) (l := [9, 0x7d, 7, 0x7e]) _ (hdf.keepNo hk3) ⟨by dsimp only; omega, by dsimp only; omega, by simp, by simp⟩ (Sl.ofBlk (n := 4) (size := 1) (xs := ([9, 0x7d, 7, 0x7e] : List UInt8).map vb) hb3 rfl) ?_ (fun a ha => by cases ha; exact hb3.lt) (by omega) (by omega)).mono ?_
  · rintro a ha (h | ⟨_, h, _⟩)
    · cases ha
      have h : w2.heap.size = w1.heap.size := h
      omega
    · cases h
  rintro v w4 ⟨A4, Ao, no, co, vals, rfl, hst4⟩
  have hdf4 := hst4.df
  rw [Df.feed_first] at hdf4
  have k4 : Keep No W w4 := (((hk1.trans hk2).trans hk3).toNo hst4.keep (by rintro i (h | ⟨_, h, _⟩) <;> first | (have := hk1.size; omega) | cases h))
  (conv => whnf)
  refine VLoop.by_ tt_ok (S := Nat × Option Addr × Nat × Nat × Option Addr × Nat × Nat × List Value) (fun | (i, Ab, nb, cb, Aw, nw, cw, _) => [(0, vw m), (2, .slice A n c), (7, .pointer (some ⟨w1.heap.size, 0, none⟩)), (10, .slice Ab nb cb), (11, .slice Aw nw cw), (12, .int .i64 i)])
    (fun | (i, Ab, nb, cb, Aw, nw, cw, vs) => fun w' => i ≤ n ∧ Own w' w4.heap.size T8 1 Ab nb cb ((allStuffed m (ls.take i)).map vb) ∧ nb ≤ 602 * i ∧ Own w' w4.heap.size TS8 1 Aw nw cw vs ∧ Els w' (fun k => k < W.heap.size) vs (wanted (ls.take i)) ∧ Keep No w4 w') (fun | (i, _) => n - i)
    (0, none, 0, 0, none, 0, 0, []) ⟨rfl, rfl, rfl, rfl, rfl, rfl, trivial⟩ ⟨Nat.zero_le _, Own.nil _ _ _ _, by omega, Own.nil _ _ _ _, Els.nil _ _, Keep.refl _ _⟩ ?_
  rintro ⟨i, Ab, nb, cb, Aw, nw, cw, vs⟩ w' ⟨hi, hob, hnb, how, hew, hk⟩
  have hkW := k4.trans hk
  (conv => whnf)
  refine VCmp.mk (fun h => ?_) (fun h => ?_) <;> (conv => whnf)
  · obtain ⟨f, hf⟩ : ∃ f, ls[i]? = some f := ⟨_, List.getElem?_eq_getElem (by omega)⟩
    have hf300 := h300 f (List.mem_of_getElem? hf)
    obtain ⟨vf, hvf, Af, cf, rfl, hcf, hsf, hbf⟩ := hels.2 i f hf
    obtain ⟨b0, o0, hA0, hc0⟩ := (hs.keepNo hkW).at_ (by omega)
    refine VIdx.one i rfl (by omega) hA0 ?_
    (conv => whnf)
    refine VLoad.by_ (hc0 i _ hvf) ?_
    (conv => whnf)
    refine (stuff_ok _ Af f.length cf f m (hsf.keepNo hkW) (by omega)).mono ?_
    rintro v w5 ⟨A5, n5, c5, rfl, ho5, hk5⟩
    have hn5 := Own.len8 ho5
    have hb5 := stuffed_len m f
    have hge : 2 ≤ n5 := by rw [hn5]; simp [stuffed]
    (conv => whnf)
    refine VLoop.by_ tt_ok (S := Nat) (fun k => [(0, vw m), (2, .slice A n c), (7, .pointer (some ⟨w1.heap.size, 0, none⟩)), (10, .slice Ab nb cb), (11, .slice Aw nw cw), (12, .int .i64 i), (13, .slice A5 n5 c5), (14, .int .i64 k)])
      (fun k w' => 1 ≤ k ∧ k + 1 ≤ n5 ∧ w5 = w') (fun k => n5 - k) 1 ⟨rfl, rfl, rfl, rfl, rfl, rfl, rfl, rfl, trivial⟩ ⟨Nat.le_refl _, by omega, rfl⟩ ?_
    rintro k w5' ⟨hk1', hkn, rfl⟩
    obtain ⟨b5, o5, hA5, hc5⟩ := (Sl.ofOwn ho5).at_ (by omega)
    (conv => whnf)
    refine VRes.i64 (by omega) ?_
    (conv => whnf)
    refine VCmp.mk (fun h2 => ?_) (fun h2 => ?_) <;> (conv => whnf)
    · obtain ⟨y, hy, hy1, hy2⟩ := stuffed_get m f k hk1' (by omega)
      have hcy := hc5 k (vb y) (by simp [hy])
      refine VIdx.one k rfl (by omega) hA5 ?_
      (conv => whnf)
      refine VLoad.by_ hcy ?_
      (conv => whnf)
      refine VCmp.mk (fun h3 => ?_) (fun h3 => ?_)
      · exfalso; exact hy1 (UInt8.toNat_inj.1 (by have : (0x7e : UInt8).toNat = 126 := rfl; omega))
      (conv => whnf)
      refine VIdx.one k rfl (by omega) hA5 ?_
      (conv => whnf)
      refine VLoad.by_ hcy ?_
      (conv => whnf)
      refine VCmp.mk (fun h4 => ?_) (fun h4 => ?_) <;> (conv => whnf)
      · refine VIdx.one k rfl (by omega) hA5 ?_
        (conv => whnf)
        refine VLoad.by_ hcy ?_
        (conv => whnf)
        have hy256 := y.toNat_lt
        refine VRes.u64 (by omega) ?_
        (conv => whnf)
        refine VReq.mk (by omega) ?_
        (conv => whnf)
        refine VRes.shr32 rfl ?_
        (conv => whnf)
        refine VRes.and32 (y := 1#32) rfl ?_
        (conv => whnf)
        refine VCmp.mk (fun h5 => ?_) (fun h5 => ?_)
        · exfalso
          have e : (m >>> y.toNat) &&& 1#32 = 1#32 := BitVec.eq_of_toNat_eq (by have : (1#32).toNat = 1 := rfl; omega)
          unfold mapB at hy2
          rw [decide_eq_true (by omega), e] at hy2
          exact absurd hy2 (by decide)
        (conv => whnf)
        refine VRes.i64 (by omega) ?_
        (conv => whnf)
        exact ⟨k + 1, ⟨rfl, rfl, rfl, rfl, rfl, rfl, rfl, rfl, trivial⟩, ⟨by omega, by omega, rfl⟩, by omega⟩
      · refine VRes.i64 (by omega) ?_
        (conv => whnf)
        exact ⟨k + 1, ⟨rfl, rfl, rfl, rfl, rfl, rfl, rfl, rfl, trivial⟩, ⟨by omega, by omega, rfl⟩, by omega⟩
    · have k5 : Keep No w4 w5 := hk.trans hk5
      refine app8 (w0 := w4) k5 (hob.keepNo hk5) (Sl.ofOwn ho5) (by omega) ?_
      intro A6 c6 w6 ho6 hk6 hkA _
      have hsn : allStuffed m (ls.take (i + 1)) = allStuffed m (ls.take i) ++ stuffed m f := by
        rw [List.take_add_one, hf]; simp [allStuffed]
      have how6 : Own w6 w4.heap.size TS8 1 Aw nw cw vs := (how.keepNo hk5).keep hkA (by
        rintro a ha ⟨a0, h0, e⟩
        exact Ty.ne ((how.keepNo hk5).ty ha) ((hob.keepNo hk5).ty h0) (by decide) e.symm)
      have hwlen : nw = (wanted (ls.take i)).length := by rw [← hew.1]; exact (Sl.ofOwn how).len.symm
      have hwle : (wanted (ls.take i)).length ≤ 40 := Nat.le_trans (List.length_filter_le _ _) (by rw [List.length_take]; omega)
      have hew6 := hew.keep ((hk5.trans (Keep.refl No w5))) (fun _ _ => id)
      have hew6' : Els w6 (fun k => k < W.heap.size) vs (wanted (ls.take i)) := hew6.keep hkA (by
        rintro j hj ⟨a0, h0, e⟩
        have := ((hob.keepNo hk5).base_ h0).1
        have := k4.size
        omega)
      have hk6W := k4.trans hk6
      obtain ⟨b1, o1, hA1, hc1⟩ := (hs.keepNo hk6W).at_ (by omega)
      (conv => whnf)
      refine VIdx.one i rfl (by omega) hA1 ?_
      (conv => whnf)
      refine VLoad.by_ (hc1 i _ hvf) ?_
      (conv => whnf)
      refine VCmp.mk (fun h3 => ?_) (fun h3 => ?_) <;> (conv => whnf)
      · refine VIdx.one i rfl (by omega) hA1 ?_
        (conv => whnf)
        refine VLoad.by_ (hc1 i _ hvf) ?_
        (conv => whnf)
        refine VFill.by_ rfl ?_
        (conv => whnf)
        refine ⟨fun w7 hb7 hk7 => ?_⟩
        (conv => whnf)
        refine appS (how6.keepNo hk7) (ys := [.slice Af f.length cf]) (Sl.ofBlk (n := 1) (size := 1) hb7 rfl) (by simp [Value.oneCell']) (by omega) (by have := hk6.size; have := hk7.size; omega) ?_
        intro A8 c8 w8 ho8 hk8 _
        (conv => whnf)
        refine VRes.i64 (by omega) ?_
        (conv => whnf)
        have hk78 : Keep No w4 w8 := (hk6.trans hk7).own (how6.keepNo hk7) hk8
        have hw1 : wanted (ls.take (i + 1)) = wanted (ls.take i) ++ [f] := by
          rw [List.take_add_one, hf]
          have h3' : 0 < f.length := by omega
          simp [wanted, h3']
        refine ⟨(i + 1, A6, nb + n5, c6, A8, nw + 1, c8, vs ++ [.slice Af f.length cf]), ⟨rfl, rfl, rfl, rfl, rfl, rfl, trivial⟩, ⟨by omega, ?_, by omega, ho8, ?_, hk78⟩, by dsimp only; omega⟩
        · rw [hsn]
          exact (ho6.keepNo hk7).keep hk8 (by
            rintro a ha ⟨a0, h0, e⟩
            exact Ty.ne ((ho6.keepNo hk7).ty ha) ((how6.keepNo hk7).ty h0) (by decide) e.symm)
        · rw [hw1]
          refine Els.snoc ?_ ⟨Af, cf, rfl, hcf, hsf.keepNo (k4.trans hk78), hbf⟩
          refine (hew6'.keep hk7 (fun _ _ => id)).keep hk8 ?_
          rintro j hj ⟨a0, h0, e⟩
          have := (how6.base_ h0).1
          have := k4.size
          omega
      · refine VRes.i64 (by omega) ?_
        (conv => whnf)
        have hw1 : wanted (ls.take (i + 1)) = wanted (ls.take i) := by
          rw [List.take_add_one, hf]
          have h3' : ¬ 0 < f.length := by omega
          simp [wanted, h3']
        refine ⟨(i + 1, A6, nb + n5, c6, Aw, nw, cw, vs), ⟨rfl, rfl, rfl, rfl, rfl, rfl, trivial⟩, ⟨by omega, by rw [hsn]; exact ho6, by omega, how6, by rw [hw1]; exact hew6', hk6⟩, by dsimp only; omega⟩
  · have hin : i = n := by omega
    subst hin
    rw [List.take_of_length_le (by omega)] at hob hew
    have hsub : ∀ c, mapB c (m &&& less) = true → mapB c m = true := fun c h => mapB_and c m less h
    refine (feed_own (D := 0) _ (hdf4.keepNo hk) ⟨by dsimp only; omega, by dsimp only; omega, by simp, by simp⟩ hob hdf4.lt (by omega) (by omega)).mono ?_
    rintro v w5 ⟨A5, Ax, nx, cx, vx, rfl, hst5⟩
    rw [Df.feed_all m _ ⟨rfl, rfl, rfl⟩ hsub ls h300] at hst5
    have hx := hst5.no_len
    have hwle : (wanted ls).length ≤ 40 := Nat.le_trans (List.length_filter_le _ _) h40
    have hkk : Keep (fpt w1.heap.size A4) w' w5 := hst5.keep
    have how5 := how.keep hkk (by
      intro a ha e
      have := (how.base_ ha).1
      have := hdf4.lt _ e
      omega)
    have hew5 := hew.keep hkk (by
      rintro j hj (e | ⟨a0, h0, e⟩)
      · have := hk1.size; omega
      · rcases hst4.buf a0 h0 with ⟨_, h, _⟩ | h
        · cases h
        · have := ((hk1.trans hk2).trans hk3).size; omega)
    (conv => whnf)
    refine (frames_ok _ (Sl.ofOwn hst5.out) hst5.els (Sl.ofOwn how5) hew5 (by rw [hx]; dsimp only; omega) (by
      intro f hf
      have := h300 f (List.mem_filter.1 hf).1
      omega)).mono ?_
    rintro v w6 ⟨rfl, hk6⟩
    rw [decide_eq_true rfl]
    (conv => whnf)
    refine (dropped_ok _ (hst5.df.keepNo hk6)).mono ?_
    rintro v w7 ⟨rfl, rfl⟩
    (conv => whnf)
    refine VCmp.mk (fun h6 => ?_) (fun h6 => ?_) <;> first | (exfalso; exact h6 rfl) | (conv => whnf)
    refine ⟨rfl, (hkW.toNo hkk ?_).trans hk6⟩
    rintro j (e | ⟨a0, h0, e⟩)
    · have := hk1.size; omega
    · rcases hst4.buf a0 h0 with ⟨_, h, _⟩ | h
      · cases h
      · have := ((hk1.trans hk2).trans hk3).size; omega

/-! ### The statement -/
theorem stuffBack_own : ownKnob Try.prog.godebug = none := by kernel_rfl
theorem stuffBack_laid : laidOutB Try.prog = true := by kernel_rfl
set_option maxRecDepth 100000 in
theorem stuffBack_lifted (os : Os) (started : os.Started) (H : Type) (enc : TypeId × Value → H) :
    ReturnsInHanded {} Try.checked os 6 .any (Rows.stuffBackSpec.pre6 enc Try.prog Try.f6 Rows.stuffBackRow.domain false) (Rows.stuffBackSpec.post enc Try.prog Try.f6 false true false false) := by
  refine returnsInHanded_of_change (C := Try.checked) stuffBack_own started (by kernel_rfl) Try.func6
    (ChangeSpec.witness6 (enc := enc) (C := Try.checked) false ⟨#[], #[.int .u32 0, .int .u32 0, .slice none 0 0], []⟩ 8 (by kernel_rfl) (by kernel_rfl) (by kernel_rfl) (by kernel_rfl)) ?_
  intro W base args ds gs before hval0 hW hcnd _
  have hval : ∀ (j : Nat) t v, Try.f6.params[j]? = some t → args[j]? = some v → Value.okWide Try.prog W .any base t v := hval0
  have hW' := hW
  obtain ⟨p, q, hA0, hV, rfl, hfz, hnd⟩ := hW
  have hA : DataW.TrodAll enc Try.prog W 0 (fun _ => true) true Try.f6.params.toList args.toList ds p := hA0
  rw [Try.params6] at hA hval
  obtain ⟨v0, vs0, d0, ds0, p0, q0, hargs, rfl, rfl, h0, r0⟩ := trodAll_cons hA
  obtain ⟨v1, vs1, d1, ds1, p1, q1, rfl, rfl, rfl, h1, r1⟩ := trodAll_cons r0
  obtain ⟨v2, vs2, d2, ds2, p2, q2, rfl, rfl, rfl, h2, r2⟩ := trodAll_cons r1
  obtain ⟨rfl, rfl, rfl⟩ := trodAll_nil r2
  obtain rfl : args = #[v0, v1, v2] := by cases args; simp_all
  obtain ⟨rfl, rfl⟩ := trodVars_none hV
  have k0 := h0
  have lt0 : ∀ x ∈ p0, x.block < W.heap.size := by obtain ⟨m, hm⟩ := k0; exact DataW.trod_lt m _ _ _ hm
  obtain ⟨a0, rfl, rfl, rfl, w0⟩ := open_int Try.underlying23 (hval 0 23 v0 rfl rfl) h0
  obtain ⟨m0, rfl⟩ := word_of w0
  have k1 := h1
  have lt1 : ∀ x ∈ p1, x.block < W.heap.size := by obtain ⟨m, hm⟩ := k1; exact DataW.trod_lt m _ _ _ hm
  obtain ⟨a1, rfl, rfl, rfl, w1⟩ := open_int Try.underlying23 (hval 1 23 v1 rfl rfl) h1
  obtain ⟨m1, rfl⟩ := word_of w1
  have k2 := h2
  have lt2 : ∀ x ∈ p2, x.block < W.heap.size := by obtain ⟨m, hm⟩ := k2; exact DataW.trod_lt m _ _ _ hm
  obtain ⟨aa2, la2, ca2, rfl⟩ := okWide_slice Try.underlying32 (hval 2 32 v2 rfl rfl)
  obtain ⟨fuel2, hf2⟩ := h2
  obtain ⟨A2, n2, c2, va2, l2, e2, s2, el2, nc2, cc2, b2, fl2⟩ := open_rows Try.underlying32 (by kernel_rfl) Try.underlying22 Try.underlying5 (by kernel_rfl) hf2
  cases e2
  clear hA0 hval0
  refine (VC.law (stuffBack_ok W m0 m1 aa2 la2 ca2 va2 l2 s2 el2 nc2 cc2 b2 fl2)).mono fun e W' ⟨he, bel⟩ => ?_
  subst he
  exact ⟨_, rfl, _, _, _, [], _, [], hW', trodAll_mk1 (shut_bool Try.underlying4 _), (trodAll_cons_mk (Below.trod stuffBack_laid (by kernel_rfl) (of_decide_eq_true (by kernel_rfl)) k0 bel lt0) (trodAll_cons_mk (Below.trod stuffBack_laid (by kernel_rfl) (of_decide_eq_true (by kernel_rfl)) k1 bel lt1) (trodAll_cons_mk (Below.trod stuffBack_laid (by kernel_rfl) (of_decide_eq_true (by kernel_rfl)) k2 bel lt2) trodAll_mk0))), rfl, bel.frame _, fun h => by cases h⟩

theorem stuffBack_over : Rows.stuffBackRow.holds Try.pinned (OpenSpec.ofChange Rows.stuffBackSpec) :=
  OpenClaim.holds_of_wide 6 Try.f6 rfl rfl rfl rfl rfl rfl rfl ⟨rfl, rfl, rfl, rfl, rfl⟩ rfl rfl rfl rfl rfl (by kernel_rfl) Try.func6 (by kernel_rfl)
    (of_decide_eq_true (by kernel_rfl)) (by unfold Func.isWrapper; first | (rw [if_pos (by decide +kernel)]; kernel_rfl) | (rw [if_neg (by decide +kernel)]; exact ⟨rfl, rfl⟩))
    (fun os started H enc _ => stuffBack_lifted os started H enc)

theorem stuffBack_proved : Rows.StuffBackSaid := stuffBack_over
#print axioms stuffBack_proved
end Go.Proofs.Ytgjengcmopgngaa
