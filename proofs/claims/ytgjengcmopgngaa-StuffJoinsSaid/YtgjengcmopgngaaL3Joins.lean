/-
  StuffJoins: two frames that are stuffed, the one's last flag the other's first one, are told both. For every input.
-/
import Derived.Test.YtgjengcmopgngaaSt8
import Derived.Test.YtgjengcmopgngaaRows
import Derived.Test.YtgjengcmopgngaaVl
namespace Go.Proofs.Ytgjengcmopgngaa
open Go V Go.ChangeShapes Go.WideShapes Go.ChangeAt Go.RowKit
open Go.ChangeMaps (open_string shut_string)

theorem Df.feed_drop1 (m : BitVec 32) (l : List UInt8) (s : Df) (h : s.clean) : s.feed ((stuffed m l).drop 1) = s.feed (stuffed m l) := by
  obtain ⟨hf, ho⟩ := Df.clean_fin h
  show s.feed (stuffL m l ++ [0x7e]) = s.feed (0x7e :: (stuffL m l ++ [0x7e]))
  rw [Df.feed_cons, Df.step_flag]
  dsimp only
  rw [hf, ho]
  simp

theorem stuffJoins_ok (W : World) (A : Option Addr) (n c : Nat) (l : List UInt8) (hs : Sl W 1 A n (l.map vb)) (hnc : n ≤ c) (_ : c ≤ 9223372036854775807) (_ : ∀ a, A = some a → 0 < n → a.block < W.heap.size)
    (B : Option Addr) (n' c' : Nat) (r : List UInt8) (ht : Sl W 1 B n' (r.map vb)) (htc : n' ≤ c') (_ : c' ≤ 9223372036854775807) (_ : ∀ a, B = some a → 0 < n' → a.block < W.heap.size) (m : BitVec 32) :
    VC Try.prog 8 [.slice A n c, .slice B n' c', vw m] W (fun v w' => v = .bool true ∧ Keep No W w') := by
  have hl : l.length = n := by simpa using hs.len
  have hr : r.length = n' := by simpa using ht.len
  refine VC.of tt_ok Try.func8 rfl (by decide +kernel) (Nat.le_of_ble_eq_true rfl) ?_; (conv => whnf)
  refine (awake_ok W).mono ?_
  rintro v w1 ⟨rfl, hk1⟩
  (conv => whnf)
  refine VCmp.mk (fun h => ?_) (fun h => ?_) <;> (conv => whnf)
  · exact ⟨rfl, hk1⟩
  refine VCmp.mk (fun h2 => ?_) (fun h2 => ?_) <;> (conv => whnf)
  · exact ⟨rfl, hk1⟩
  refine VCmp.mk (fun h3 => ?_) (fun h3 => ?_) <;> (conv => whnf)
  · exact ⟨rfl, hk1⟩
  refine VCmp.mk (fun h4 => ?_) (fun h4 => ?_) <;> (conv => whnf)
  · exact ⟨rfl, hk1⟩
  refine (new_ok _ 0#32 500 (by omega)).mono ?_
  rintro v w2 (⟨h, _⟩ | ⟨q, hq, q1, q2, rfl, hdf, hk2⟩)
  · omega
  obtain rfl : q = 500 := by omega
  have hk02 := hk1.trans hk2
  have hsub : ∀ c, mapB c 0#32 = true → mapB c m = true := fun c h => by rw [mapB_zero] at h; cases h
  (conv => whnf)
  refine (stuff_ok _ A n c l m (hs.keepNo hk02) (by omega)).mono ?_
  rintro v w3 ⟨A3, n3, c3, rfl, ho3, hk3⟩
  have hn3 := Own.len8 ho3
  have hb3 := stuffed_len m l
  (conv => whnf)
  refine (stuff_ok _ B n' c' r m (ht.keepNo (hk02.trans hk3)) (by omega)).mono ?_
  rintro v w4 ⟨A4, n4, c4, rfl, ho4, hk4⟩
  have hn4 := Own.len8 ho4
  have hb4 := stuffed_len m r
  have hn41 : 1 ≤ n4 := by rw [hn4]; simp [stuffed]
  have hc4 := Own.le_cap ho4
  (conv => whnf)
  (repeat' (first  | (refine VCmp.mk (fun h => ?_) (fun h => ?_) <;> first | (exfalso; omega) | (conv => whnf))  | (refine VRes.i64 (by omega) ?_; conv => whnf)  | (refine VReq.mk (by omega) ?_; conv => whnf)))
  refine VDraw.by_ tt_ok rfl (.take 0 (.take 1 (.take 3 (.take 4 (.one 2 (.one 5 (.one 6 (.take 7 .done)))))))) (by decide +kernel) _ (fun x h1 h2 h3 h4 => Keep.ofHeap h1 h2 h3 h4) (fun wd hd kd => ?_)
  (conv => whnf)
  refine VReq.mk hc4 ?_
  (conv => whnf)
  refine VCut.by_ 1 n4 rfl rfl hn41 hc4 ?_
  intro A5 hA5
  (conv => whnf)
  have s4 := ((Sl.ofOwn ho4).cut (l := 1) (h := n4) hn41 (Nat.le_refl _) hc4 hA5).keepNo kd
  have hk4d := hk4.trans kd
  refine (copy_ok _ (Sl.ofOwn (ho3.keepNo hk4d)) (by omega)).mono ?_
  rintro v w6 ⟨A6, c6, rfl, ho6, hk6⟩
  refine VOwe.same (kd.trans hk6) ?_
  (conv => whnf)
  have s6 := s4.keepNo hk6
  have hys : List.drop (1 * 1) (List.take (n4 * 1) (List.map vb (stuffed m r))) = ((stuffed m r).drop 1).map vb := by
    rw [List.take_of_length_le (by rw [List.length_map]; omega), List.map_drop]
  rw [hys] at s6
  refine app8 (w0 := wd) hk6 ho6 s6 (by omega) ?_
  intro A7 c7 w7 ho7 hk7 _ _
  refine VOwe.same (kd.trans hk7) ?_
  (conv => whnf)
  have hdf7 := (((hdf.keepNo hk3).keepNo hk4).keepNo kd).keepNo hk7
  have hbase : w2.heap.size ≤ wd.heap.size := ((hk3.trans hk4).trans kd).size
  refine (feed_own (D := 0) _ hdf7 ⟨by dsimp only; omega, by dsimp only; omega, by simp, by simp⟩ ho7 (fun i hi => Nat.lt_of_lt_of_le (hdf.lt i hi) hbase) (by omega) (by omega)).mono ?_
  rintro v w8 ⟨A8, Ao, no, co, vals, rfl, hst8⟩
  have hne : l ≠ [] := fun e => by subst e; simp at hl; omega
  have hner : r ≠ [] := fun e => by subst e; simp at hr; omega
  have hc0 : Df.clean ⟨0#32, 500, [], false, false, 0⟩ := ⟨rfl, rfl, rfl⟩
  have hfd : Df.feed ⟨0#32, 500, [], false, false, 0⟩ (stuffed m l ++ (stuffed m r).drop 1) = (⟨0#32, 500, [], false, false, 0⟩, [l, r]) := by
    rw [Df.feed_append, Df.feed_stuffed m l _ hc0 hsub (by dsimp only; omega)]
    dsimp only
    rw [Df.feed_drop1 m r _ hc0, Df.feed_stuffed m r _ hc0 hsub (by dsimp only; omega), if_neg hne, if_neg hner]
    rfl
  rw [hfd] at hst8
  have k8 : Keep No W w8 := ((((hk02.trans hk3).trans hk4d).trans hk7).toNo hst8.keep (by rintro i (h | ⟨_, h, _⟩) <;> first | (have := hk1.size; omega) | cases h))
  refine VOwe.to (fun _ => True) (fun h => nomatch (show false = true from h)) trivial ?_
  have hno := hst8.no_len
  (conv => whnf)
  refine VFill.by_ rfl ?_
  (conv => whnf)
  refine ⟨fun w9 hb9 hk9 => ?_⟩
  (conv => whnf)
  have k9 := k8.trans hk9
  obtain ⟨sx, _, X, ex, _⟩ := hst8.told.keepNo hk9
  refine (frames_ok _ sx ex (Sl.ofBlk (n := 2) (size := 1) hb9 rfl) (els_two (hs.keepNo k9) hnc (ht.keepNo k9) htc) (by rw [hno]; exact Nat.le_of_ble_eq_true rfl) (by
    intro f hf
    have : f = l ∨ f = r := by simpa using hf
    rcases this with rfl | rfl <;> omega)).mono ?_
  rintro v w10 ⟨rfl, hk10⟩
  rw [decide_eq_true rfl]
  (conv => whnf)
  refine (dropped_ok _ ((hst8.df.keepNo hk9).keepNo hk10)).mono ?_
  rintro v w11 ⟨rfl, rfl⟩
  (conv => whnf)
  refine VCmp.mk (fun h6 => ?_) (fun h6 => ?_) <;> first | (exfalso; exact h6 rfl) | (conv => whnf)
  exact ⟨rfl, k9.trans hk10⟩

/-! ### The statement -/
theorem stuffJoins_own : ownKnob Try.prog.godebug = none := by kernel_rfl
theorem stuffJoins_laid : laidOutB Try.prog = true := by kernel_rfl
set_option maxRecDepth 100000 in
theorem stuffJoins_lifted (os : Os) (started : os.Started) (H : Type) (enc : TypeId × Value → H) :
    ReturnsInHanded {} Try.checked os 8 .any (Rows.stuffJoinsSpec.pre6 enc Try.prog Try.f8 Rows.stuffJoinsRow.domain false) (Rows.stuffJoinsSpec.post enc Try.prog Try.f8 false true false false) := by
  refine returnsInHanded_of_change (C := Try.checked) stuffJoins_own started (by kernel_rfl) Try.func8
    (ChangeSpec.witness6 (enc := enc) (C := Try.checked) false ⟨#[], #[.slice none 0 0, .slice none 0 0, .int .u32 0], []⟩ 8 (by kernel_rfl) (by kernel_rfl) (by kernel_rfl) (by kernel_rfl)) ?_
  intro W base args ds gs before hval0 hW hcnd _
  have hval : ∀ (j : Nat) t v, Try.f8.params[j]? = some t → args[j]? = some v → Value.okWide Try.prog W .any base t v := hval0
  have hW' := hW
  obtain ⟨p, q, hA0, hV, rfl, hfz, hnd⟩ := hW
  have hA : DataW.TrodAll enc Try.prog W 0 (fun _ => true) true Try.f8.params.toList args.toList ds p := hA0
  rw [Try.params8] at hA hval
  obtain ⟨v0, vs0, d0, ds0, p0, q0, hargs, rfl, rfl, h0, r0⟩ := trodAll_cons hA
  obtain ⟨v1, vs1, d1, ds1, p1, q1, rfl, rfl, rfl, h1, r1⟩ := trodAll_cons r0
  obtain ⟨v2, vs2, d2, ds2, p2, q2, rfl, rfl, rfl, h2, r2⟩ := trodAll_cons r1
  obtain ⟨rfl, rfl, rfl⟩ := trodAll_nil r2
  obtain rfl : args = #[v0, v1, v2] := by cases args; simp_all
  obtain ⟨rfl, rfl⟩ := trodVars_none hV
  have k0 := h0
  have lt0 : ∀ x ∈ p0, x.block < W.heap.size := by obtain ⟨m, hm⟩ := k0; exact DataW.trod_lt m _ _ _ hm
  obtain ⟨aa0, la0, ca0, rfl⟩ := okWide_slice Try.underlying22 (hval 0 22 v0 rfl rfl)
  obtain ⟨fuel0, hf0⟩ := h0
  obtain ⟨A0, n0, c0, l0, e0, s0, ln0, nc0, cc0, b0⟩ := open_bytes Try.underlying22 Try.underlying5 (by kernel_rfl) hf0
  cases e0
  have k1 := h1
  have lt1 : ∀ x ∈ p1, x.block < W.heap.size := by obtain ⟨m, hm⟩ := k1; exact DataW.trod_lt m _ _ _ hm
  obtain ⟨aa1, la1, ca1, rfl⟩ := okWide_slice Try.underlying22 (hval 1 22 v1 rfl rfl)
  obtain ⟨fuel1, hf1⟩ := h1
  obtain ⟨A1, n1, c1, l1, e1, s1, ln1, nc1, cc1, b1⟩ := open_bytes Try.underlying22 Try.underlying5 (by kernel_rfl) hf1
  cases e1
  have k2 := h2
  have lt2 : ∀ x ∈ p2, x.block < W.heap.size := by obtain ⟨m, hm⟩ := k2; exact DataW.trod_lt m _ _ _ hm
  obtain ⟨a2, rfl, rfl, rfl, w2⟩ := open_int Try.underlying23 (hval 2 23 v2 rfl rfl) h2
  obtain ⟨m2, rfl⟩ := word_of w2
  clear hA0 hval0
  refine (VC.law (stuffJoins_ok W aa0 la0 ca0 l0 s0 nc0 cc0 b0 aa1 la1 ca1 l1 s1 nc1 cc1 b1 m2)).mono fun e W' ⟨he, bel⟩ => ?_
  subst he
  exact ⟨_, rfl, _, _, _, [], _, [], hW', trodAll_mk1 (shut_bool Try.underlying4 _), (trodAll_cons_mk (Below.trod stuffJoins_laid (by kernel_rfl) (of_decide_eq_true (by kernel_rfl)) k0 bel lt0) (trodAll_cons_mk (Below.trod stuffJoins_laid (by kernel_rfl) (of_decide_eq_true (by kernel_rfl)) k1 bel lt1) (trodAll_cons_mk (Below.trod stuffJoins_laid (by kernel_rfl) (of_decide_eq_true (by kernel_rfl)) k2 bel lt2) trodAll_mk0))), rfl, bel.frame _, fun h => by cases h⟩

theorem stuffJoins_over : Rows.stuffJoinsRow.holds Try.pinned (OpenSpec.ofChange Rows.stuffJoinsSpec) :=
  OpenClaim.holds_of_wide 8 Try.f8 rfl rfl rfl rfl rfl rfl rfl ⟨rfl, rfl, rfl, rfl, rfl⟩ rfl rfl rfl rfl rfl (by kernel_rfl) Try.func8 (by kernel_rfl)
    (of_decide_eq_true (by kernel_rfl)) (by unfold Func.isWrapper; first | (rw [if_pos (by decide +kernel)]; kernel_rfl) | (rw [if_neg (by decide +kernel)]; exact ⟨rfl, rfl⟩))
    (fun os started H enc _ => stuffJoins_lifted os started H enc)

theorem stuffJoins_proved : Rows.StuffJoinsSaid := stuffJoins_over
#print axioms stuffJoins_proved
end Go.Proofs.Ytgjengcmopgngaa
