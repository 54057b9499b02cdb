/-
  StuffParts: in whatever parts bytes come, the same frames are told. For every input.
-/
import Derived.Test.YtgjengcmopgngaaSt9
import Derived.Test.YtgjengcmopgngaaRows
import Derived.Test.YtgjengcmopgngaaVl
namespace Go.Proofs.Ytgjengcmopgngaa
open Go V Go.ChangeShapes Go.WideShapes Go.ChangeAt Go.RowKit
open Go.ChangeMaps (open_string shut_string)

theorem take_add_cut (l : List UInt8) (a k : Nat) : l.take (a + k) = l.take a ++ (l.drop a).take k := by
  rw [List.take_add]

theorem cut_bytes {w : World} {A A' : Option Addr} {n c : Nat} {l : List UInt8} (hs : Sl w 1 A n (l.map vb)) (hnc : n ≤ c) {a b : Nat} (hab : a ≤ b) (hb : b ≤ n) (hA : A' = if c = a then A else A.map (·.add (a * 1))) :
    Sl w 1 A' (b - a) (((l.drop a).take (b - a)).map vb) := by
  have h := hs.cut hab hb hnc hA
  have e : List.drop (a * 1) (List.take (b * 1) (List.map vb l)) = ((l.drop a).take (b - a)).map vb := by
    rw [Nat.mul_one, Nat.mul_one, List.drop_take, ← List.map_drop, ← List.map_take]
  rw [e] at h
  exact h

theorem stuffParts_ok (W : World) (m : BitVec 32) (A : Option Addr) (n c : Nat) (l : List UInt8) (hs : Sl W 1 A n (l.map vb)) (hnc : n ≤ c) (hcc : c ≤ 9223372036854775807) (hbA : ∀ a, A = some a → 0 < n → a.block < W.heap.size)
    (B : Option Addr) (n' c' : Nat) (r : List UInt8) (ht : Sl W 1 B n' (r.map vb)) (htc : n' ≤ c') (_ : c' ≤ 9223372036854775807) (_ : ∀ a, B = some a → 0 < n' → a.block < W.heap.size) :
    VC Try.prog 5 [vw m, .slice A n c, .slice B n' c'] W (fun v w' => v = .bool true ∧ Keep No W w') := by
  have hl : l.length = n := by simpa using hs.len
  have hr : r.length = n' := by simpa using ht.len
  refine VC.of tt_ok Try.func5 rfl (by decide +kernel) (Nat.le_of_ble_eq_true rfl) ?_; (conv => whnf)
  refine (awake_ok W).mono ?_
  rintro v w1 ⟨rfl, hk1⟩
  (conv => whnf)
  refine VCmp.mk (fun h => ?_) (fun h => ?_) <;> (conv => whnf)
  · exact ⟨rfl, hk1⟩
  refine VCmp.mk (fun h2 => ?_) (fun h2 => ?_) <;> (conv => whnf)
  · exact ⟨rfl, hk1⟩
  refine (new_ok _ m 50 (by omega)).mono ?_
  rintro v w2 (⟨h, _⟩ | ⟨q, hq, q1, q2, rfl, hdf, hk2⟩)
  · omega
  obtain rfl : q = 50 := by omega
  (conv => whnf)
  refine (new_ok _ m 50 (by omega)).mono ?_
  rintro v w3 (⟨h, _⟩ | ⟨q, hq', q1', q2', rfl, hdg, hk3⟩)
  · omega
  obtain rfl : q = 50 := by omega
  (conv => whnf)
  (repeat' (first  | (refine VCmp.mk (fun h => ?_) (fun h => ?_) <;> first | (exfalso; omega) | (conv => whnf))  | (refine VRes.i64 (by omega) ?_; conv => whnf)  | (refine VReq.mk (by omega) ?_; conv => whnf)))
  have k03 := (hk1.trans hk2).trans hk3
  have hd3 := hdf.keepNo hk3
  have hd1lt := hdf.lt _ (.inl rfl)
  have hd2lt := hdg.lt _ (.inl rfl)
  have hlow1 := hk1.size
  generalize hs0 : (⟨m, 50, [], false, false, 0⟩ : Df) = s0 at *
  have hok0 : s0.Ok 0 := by subst hs0; exact ⟨by dsimp only; omega, by dsimp only; omega, by simp, by simp⟩
  -- what all of it tells; the empty cut's address may be any
  refine (feed_okE (D := 0) _ hdg hok0 (hs.keepNo k03) (fun a ha h0 => ?_) (fun a ha h0 => Nat.lt_of_lt_of_le (hbA a ha h0) k03.size) (by omega) (by omega)).mono ?_
  · rintro (e | ⟨_, e, _⟩)
    · have := hbA a ha h0
      have := hk2.size
      omega
    · cases e
  rintro v w4 ⟨Af, Ao, no, co, vals, rfl, hst⟩
  have kd4 : Keep (fun k => k = w2.heap.size) w3 w4 := hst.keep.mono (by rintro i _ (h | ⟨_, h, _⟩); (· exact h); cases h)
  have k4 : Keep No W w4 := k03.toNo kd4 (fun i h => by have := hk2.size; omega)
  have hd4 : DfA w4 w1.heap.size none s0 := hd3.keep kd4 (by rintro i (h | ⟨_, h, _⟩); (· omega); cases h)
  (conv => whnf)
  have hs4 := kd4.size
  have hfr := hst.told
  have hdf4 := hst.df
  have hbuf := hst.buf
  have hacc0 : Acc w4 w1.heap.size w4 none s0 none 0 0 [] [] := ⟨hd4, Own.nil _ _ _ _, rfl, Els.nil _ _, Keep.refl _ _, fun a ha => by cases ha⟩
  refine VLoop.by_ tt_ok (S := Nat × Nat × Option Addr × Option Addr × Nat × Nat × List Value) (fun | (i, a, _, Al, nl, cl, _) => [(1, .slice A n c), (2, .slice B n' c'), (7, .pointer (some ⟨w1.heap.size, 0, none⟩)), (9, .pointer (some ⟨w2.heap.size, 0, none⟩)), (11, .slice Ao no co), (12, .slice Al nl cl), (13, .int .i64 a), (14, .int .i64 i)])
    (fun | (i, a, A', Al, nl, cl, vs) => fun w' => i ≤ n' ∧ a ≤ n ∧ Acc w4 w1.heap.size w' A' (s0.feed (l.take a)).1 Al nl cl vs (s0.feed (l.take a)).2) (fun | (i, _) => n' - i)
    (0, 0, none, none, 0, 0, []) ⟨rfl, rfl, rfl, rfl, rfl, rfl, rfl, rfl, trivial⟩ ⟨Nat.zero_le _, Nat.zero_le _, hacc0⟩ ?_
  rintro ⟨i, a, A', Al, nl, cl, vs⟩ w' ⟨hi, ha, hacc⟩
  have hkW : Keep No W w' := k4.toNo hacc.keep (fun i h => by omega)
  have hokk := Df.feed_ok' hok0 (l.take a)
  have htl : (l.take a).length = a := by rw [List.length_take]; omega
  have hfl := Df.feed_len s0 (l.take a)
  rw [htl] at hokk hfl
  have hnl := hacc.no_len
  have hsW := hkW.size
  have hsB := hacc.keep.size
  -- a cut of the bytes, fed, its frames appended
  have feedcut : ∀ (b : Nat) (A2 : Option Addr) (c2 : Nat), a ≤ b → b ≤ n → A2 = (if c = a then A else A.map (·.add (a * 1))) →
      VC Try.prog 13 [.pointer (some ⟨w1.heap.size, 0, none⟩), .slice A2 (b - a) c2] w' (fun v w1' => ∃ A'' Ao no co vals, v = .slice Ao no co ∧ FeedSt w' w1.heap.size A' (s0.feed (l.take a)).1 A'' Ao no co vals (s0.feed (l.take b)).1 (((s0.feed (l.take a)).1.feed ((l.drop a).take (b - a))).2) w1' ∧ (s0.feed (l.take b)).2 = (s0.feed (l.take a)).2 ++ (((s0.feed (l.take a)).1.feed ((l.drop a).take (b - a))).2) ∧ no ≤ b - a) := by
    intro b A2 c2 hab hb hA2
    have hcut := cut_bytes (hs.keepNo hkW) hnc hab hb hA2
    have hfb : s0.feed (l.take b) = (((s0.feed (l.take a)).1.feed ((l.drop a).take (b - a))).1, (s0.feed (l.take a)).2 ++ ((s0.feed (l.take a)).1.feed ((l.drop a).take (b - a))).2) := by
      rw [show b = a + (b - a) from by omega, take_add_cut, Df.feed_append]
      rw [show a + (b - a) - a = b - a from by omega]
    have hblk : ∀ x, A2 = some x → 0 < b - a → x.block < W.heap.size := by
      intro x hx h0
      obtain ⟨bb, oo, hAe, _⟩ := hs.at_ (by omega)
      rw [hA2, if_neg (by omega), hAe] at hx
      simp only [Option.map_some, addr_add, Option.some.injEq] at hx
      subst hx
      exact hbA ⟨bb, oo, none⟩ hAe (by omega)
    refine (feed_okE _ hacc.df hokk hcut (fun x hx h0 => ?_) (fun x hx h0 => Nat.lt_of_lt_of_le (hblk x hx h0) hsW) (by omega) (by omega)).mono ?_
    · have hx1 := hblk x hx h0
      rintro (e | ⟨y, hy, e⟩)
      · omega
      · have := hacc.buf y hy
        have := k4.size
        omega
    · rintro v wx ⟨A'', Ao', no', co', vals', rfl, hst'⟩
      refine ⟨A'', Ao', no', co', vals', rfl, by rw [hfb]; exact hst', by rw [hfb], ?_⟩
      rw [hst'.no_len]
      refine Nat.le_trans (Df.feed_len _ _) ?_
      rw [List.length_take]; omega
  (conv => whnf)
  refine VCmp.mk (fun h5 => ?_) (fun h5 => ?_) <;> (conv => whnf)
  · obtain ⟨x, hx⟩ : ∃ x, r[i]? = some x := ⟨_, List.getElem?_eq_getElem (by omega)⟩
    obtain ⟨b0, o0, hB, hcB⟩ := (ht.keepNo hkW).at_ (by omega)
    refine VIdx.one i rfl (by omega) hB ?_
    (conv => whnf)
    refine VLoad.by_ (hcB i (vb x) (by simp [hx])) ?_
    (conv => whnf)
    have hx256 := x.toNat_lt
    refine VRes.i64 (by omega) ?_
    (conv => whnf)
    refine VReq.mk (by omega) ?_
    (conv => whnf)
    have hmod : (x.toNat : Int).tmod 7 = ((x.toNat % 7 : Nat) : Int) := rfl
    refine VRes.to (congrArg (Value.int .i64) hmod) ?_
    (conv => whnf)
    refine VRes.i64 (by omega) ?_
    (conv => whnf)
    have hm7 := Nat.mod_lt x.toNat (show 7 > 0 by omega)
    obtain ⟨k, hk, hkle⟩ : ∃ k : Nat, (if (n : Int) - (a : Int) < ((x.toNat % 7 : Nat) : Int) then (n : Int) - (a : Int) else ((x.toNat % 7 : Nat) : Int)) = (k : Int) ∧ a + k ≤ n := by
      split
      · exact ⟨n - a, by omega, by omega⟩
      · exact ⟨x.toNat % 7, rfl, by omega⟩
    refine VRes.to (congrArg (Value.int .i64) hk) ?_
    (conv => whnf)
    refine VRes.i64 (by omega) ?_
    (conv => whnf)
    refine VCut.by_ a (a + k) rfl (by omega) (by omega) (by omega) ?_
    intro A2 hA2
    (conv => whnf)
    refine (feedcut (a + k) A2 (c - a) (by omega) hkle hA2).mono ?_
    rintro v w5 ⟨A'', Ao', no', co', vals', rfl, hst', hfs, hno'⟩
    (conv => whnf)
    obtain ⟨ho5, he5⟩ := hacc.fed hst'
    refine appS ho5 (Sl.ofOwn hst'.out) hst'.els.one (by omega) (by have := hst'.keep.size; omega) ?_
    intro Al' cl' w6 ho6 hk6 _
    (conv => whnf)
    refine VRes.i64 (by omega) ?_
    (conv => whnf)
    refine VRes.i64 (by omega) ?_
    (conv => whnf)
    refine ⟨(i + 1, a + k, A'', Al', nl + no', cl', vs ++ vals'), ⟨rfl, rfl, rfl, rfl, rfl, rfl, rfl, rfl, trivial⟩, ⟨by omega, by omega, ?_⟩, by dsimp only; omega⟩
    rw [hfs]
    exact hacc.next hst' ho6 hk6
  · refine VReq.mk hnc ?_
    (conv => whnf)
    refine VCut.by_ a n rfl rfl ha hnc ?_
    intro A2 hA2
    (conv => whnf)
    refine (feedcut n A2 (c - a) ha (Nat.le_refl _) hA2).mono ?_
    rintro v w5 ⟨A'', Ao', no', co', vals', rfl, hst', hfs, hno'⟩
    rw [show l.take n = l from List.take_of_length_le (by omega)] at hst' hfs
    (conv => whnf)
    obtain ⟨ho5, he5⟩ := hacc.fed hst'
    refine appS ho5 (Sl.ofOwn hst'.out) hst'.els.one (by omega) (by have := hst'.keep.size; omega) ?_
    intro Al' cl' w6 ho6 hk6 _
    have hacc6 := hacc.next hst' ho6 hk6
    rw [← hfs] at hacc6
    have hkB := hacc6.keep
    -- what f told is still there
    have hne : ∀ i, fpt w2.heap.size Af i → ¬ (i = w1.heap.size) := by
      rintro i (h | ⟨y, hy, rfl⟩) e
      · have := hk2.size; omega
      · rcases hbuf y hy with ⟨_, h, _⟩ | h
        · cases h
        · have := hk3.size; have := hk2.size; omega
    have hfin : ∀ (hall : Sl w6 1 Ao no vals ∧ ∃ X, Els w6 X vals (s0.feed l).2), True := fun _ => trivial
    have hall : Sl w6 1 Ao no vals ∧ ∃ X, Els w6 X vals (s0.feed l).2 := by
      have hy : ∀ i, frX w3 w4 w2.heap.size none Af i → ¬ (i = w1.heap.size) := by
        rintro i ⟨h1, _, _, _, h5⟩ e
        obtain ⟨n0, c0, hb0, _⟩ := hd4
        exact Ty.ne h5 hb0.ty (by decide) e
      refine ⟨(Sl.ofOwn hst.out).keepP hkB (fun y hy' _ e => ?_), _, hst.els.keep hkB hy⟩
      obtain ⟨n0, c0, hb0, _⟩ := hd4
      exact hst.out.type_ne hy' hb0 (by decide) e
    obtain ⟨sx, X, ex⟩ := hall
    have hno := hst.no_len
    have hfl2 := Df.feed_len s0 l
    have hno6 := hacc6.no_len
    (conv => whnf)
    refine (frames_ok _ (Sl.ofOwn hacc6.out) hacc6.els sx ex (by omega) ?_).mono ?_
    · intro f hf
      have := Df.feed_each hok0 l f hf
      omega
    rintro v w7 ⟨rfl, hk7⟩
    rw [decide_eq_true rfl]
    (conv => whnf)
    refine (dropped_ok _ (hacc6.df.keepNo hk7)).mono ?_
    rintro v w8 ⟨rfl, rfl⟩
    (conv => whnf)
    refine (dropped_ok _ ((hdf4.keep hkB hne).keepNo hk7)).mono ?_
    rintro v w9 ⟨rfl, rfl⟩
    (conv => whnf)
    refine VCmp.mk (fun h6 => ?_) (fun h6 => ?_) <;> first | (exfalso; exact h6 rfl) | (conv => whnf)
    exact ⟨rfl, (k4.toNo hkB (fun i h => by omega)).trans hk7⟩

/-! ### The statement -/
theorem stuffParts_own : ownKnob Try.prog.godebug = none := by kernel_rfl
theorem stuffParts_laid : laidOutB Try.prog = true := by kernel_rfl
set_option maxRecDepth 100000 in
theorem stuffParts_lifted (os : Os) (started : os.Started) (H : Type) (enc : TypeId × Value → H) :
    ReturnsInHanded {} Try.checked os 5 .any (Rows.stuffPartsSpec.pre6 enc Try.prog Try.f5 Rows.stuffPartsRow.domain false) (Rows.stuffPartsSpec.post enc Try.prog Try.f5 false true false false) := by
  refine returnsInHanded_of_change (C := Try.checked) stuffParts_own started (by kernel_rfl) Try.func5
    (ChangeSpec.witness6 (enc := enc) (C := Try.checked) false ⟨#[], #[.int .u32 0, .slice none 0 0, .slice none 0 0], []⟩ 8 (by kernel_rfl) (by kernel_rfl) (by kernel_rfl) (by kernel_rfl)) ?_
  intro W base args ds gs before hval0 hW hcnd _
  have hval : ∀ (j : Nat) t v, Try.f5.params[j]? = some t → args[j]? = some v → Value.okWide Try.prog W .any base t v := hval0
  have hW' := hW
  obtain ⟨p, q, hA0, hV, rfl, hfz, hnd⟩ := hW
  have hA : DataW.TrodAll enc Try.prog W 0 (fun _ => true) true Try.f5.params.toList args.toList ds p := hA0
  rw [Try.params5] at hA hval
  obtain ⟨v0, vs0, d0, ds0, p0, q0, hargs, rfl, rfl, h0, r0⟩ := trodAll_cons hA
  obtain ⟨v1, vs1, d1, ds1, p1, q1, rfl, rfl, rfl, h1, r1⟩ := trodAll_cons r0
  obtain ⟨v2, vs2, d2, ds2, p2, q2, rfl, rfl, rfl, h2, r2⟩ := trodAll_cons r1
  obtain ⟨rfl, rfl, rfl⟩ := trodAll_nil r2
  obtain rfl : args = #[v0, v1, v2] := by cases args; simp_all
  obtain ⟨rfl, rfl⟩ := trodVars_none hV
  have k0 := h0
  have lt0 : ∀ x ∈ p0, x.block < W.heap.size := by obtain ⟨m, hm⟩ := k0; exact DataW.trod_lt m _ _ _ hm
  obtain ⟨a0, rfl, rfl, rfl, w0⟩ := open_int Try.underlying23 (hval 0 23 v0 rfl rfl) h0
  obtain ⟨m0, rfl⟩ := word_of w0
  have k1 := h1
  have lt1 : ∀ x ∈ p1, x.block < W.heap.size := by obtain ⟨m, hm⟩ := k1; exact DataW.trod_lt m _ _ _ hm
  obtain ⟨aa1, la1, ca1, rfl⟩ := okWide_slice Try.underlying22 (hval 1 22 v1 rfl rfl)
  obtain ⟨fuel1, hf1⟩ := h1
  obtain ⟨A1, n1, c1, l1, e1, s1, ln1, nc1, cc1, b1⟩ := open_bytes Try.underlying22 Try.underlying5 (by kernel_rfl) hf1
  cases e1
  have k2 := h2
  have lt2 : ∀ x ∈ p2, x.block < W.heap.size := by obtain ⟨m, hm⟩ := k2; exact DataW.trod_lt m _ _ _ hm
  obtain ⟨aa2, la2, ca2, rfl⟩ := okWide_slice Try.underlying22 (hval 2 22 v2 rfl rfl)
  obtain ⟨fuel2, hf2⟩ := h2
  obtain ⟨A2, n2, c2, l2, e2, s2, ln2, nc2, cc2, b2⟩ := open_bytes Try.underlying22 Try.underlying5 (by kernel_rfl) hf2
  cases e2
  clear hA0 hval0
  refine (VC.law (stuffParts_ok W m0 aa1 la1 ca1 l1 s1 nc1 cc1 b1 aa2 la2 ca2 l2 s2 nc2 cc2 b2)).mono fun e W' ⟨he, bel⟩ => ?_
  subst he
  exact ⟨_, rfl, _, _, _, [], _, [], hW', trodAll_mk1 (shut_bool Try.underlying4 _), (trodAll_cons_mk (Below.trod stuffParts_laid (by kernel_rfl) (of_decide_eq_true (by kernel_rfl)) k0 bel lt0) (trodAll_cons_mk (Below.trod stuffParts_laid (by kernel_rfl) (of_decide_eq_true (by kernel_rfl)) k1 bel lt1) (trodAll_cons_mk (Below.trod stuffParts_laid (by kernel_rfl) (of_decide_eq_true (by kernel_rfl)) k2 bel lt2) trodAll_mk0))), rfl, bel.frame _, fun h => by cases h⟩

theorem stuffParts_over : Rows.stuffPartsRow.holds Try.pinned (OpenSpec.ofChange Rows.stuffPartsSpec) :=
  OpenClaim.holds_of_wide 5 Try.f5 rfl rfl rfl rfl rfl rfl rfl ⟨rfl, rfl, rfl, rfl, rfl⟩ rfl rfl rfl rfl rfl (by kernel_rfl) Try.func5 (by kernel_rfl)
    (of_decide_eq_true (by kernel_rfl)) (by unfold Func.isWrapper; first | (rw [if_pos (by decide +kernel)]; kernel_rfl) | (rw [if_neg (by decide +kernel)]; exact ⟨rfl, rfl⟩))
    (fun os started H enc _ => stuffParts_lifted os started H enc)

theorem stuffParts_proved : Rows.StuffPartsSaid := stuffParts_over
#print axioms stuffParts_proved
end Go.Proofs.Ytgjengcmopgngaa
