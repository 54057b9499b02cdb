/-
  StuffResets: behind a reset a deframer is as a new one with that map, but for how many it dropped. For every input.
-/
import Derived.Test.YtgjengcmopgngabSt8
import Derived.Test.YtgjengcmopgngabRows
import Derived.Test.YtgjengcmopgngabVl
namespace Go.Proofs.Ytgjengcmopgngab
open Go V Go.ChangeShapes Go.WideShapes Go.ChangeAt Go.RowKit
open Go.ChangeMaps (open_string shut_string)

theorem stuffResets_ok (W : World) (A : Option Addr) (n c : Nat) (l : List UInt8) (hs : Sl W 1 A n (l.map vb)) (hnc : n ≤ c) (_ : c ≤ 9223372036854775807) (hbA : ∀ a, A = some a → 0 < n → a.block < W.heap.size)
    (B : Option Addr) (n' c' : Nat) (r : List UInt8) (ht : Sl W 1 B n' (r.map vb)) (htc : n' ≤ c') (_ : c' ≤ 9223372036854775807) (hbB : ∀ a, B = some a → 0 < n' → a.block < W.heap.size) (m : BitVec 32) :
    VC Try.prog 3 [.slice A n c, .slice B n' c', vw m] W (fun v w' => v = .bool true ∧ Keep No W w') := by
  have hl : l.length = n := by simpa using hs.len
  have hr : r.length = n' := by simpa using ht.len
  refine VC.of tt_ok Try.func3 rfl (by decide +kernel) (Nat.le_of_ble_eq_true rfl) ?_; (conv => whnf)
  refine (awake_ok W).mono ?_
  rintro v w1 ⟨rfl, hk1⟩
  (conv => whnf)
  refine VCmp.mk (fun h => ?_) (fun h => ?_) <;> (conv => whnf)
  · exact ⟨rfl, hk1⟩
  refine VCmp.mk (fun h2 => ?_) (fun h2 => ?_) <;> (conv => whnf)
  · exact ⟨rfl, hk1⟩
  refine (new_ok _ 0#32 100 (by omega)).mono ?_
  rintro v w2 (⟨h, _⟩ | ⟨q, hq, q1, q2, rfl, hdf, hk2⟩)
  · omega
  obtain rfl : q = 100 := by omega
  (conv => whnf)
  refine (new_ok _ m 100 (by omega)).mono ?_
  rintro v w3 (⟨h, _⟩ | ⟨q, hq', q1', q2', rfl, hdg, hk3⟩)
  · omega
  obtain rfl : q = 100 := by omega
  (conv => whnf)
  (repeat' (first  | (refine VCmp.mk (fun h => ?_) (fun h => ?_) <;> first | (exfalso; omega) | (conv => whnf))  | (refine VRes.i64 (by omega) ?_; conv => whnf)  | (refine VReq.mk (by omega) ?_; conv => whnf)))
  have k3 := (hk1.trans hk2).trans hk3
  have s1 := hk1.size
  have s2 := hk2.size
  have s3 := hk3.size
  have hd1 := hdf.lt _ (.inl rfl)
  have hd2 := hdg.lt _ (.inl rfl)
  refine (feed_okE (D := 0) _ (hdf.keepNo hk3) ⟨by decide, by decide, by decide, by decide⟩ (hs.keepNo k3) (fun a ha h0 => ?_) (fun a ha h0 => Nat.lt_of_lt_of_le (hbA a ha h0) k3.size) (by omega) (by omega)).mono ?_
  · rintro (e | ⟨_, e, _⟩)
    · have := hbA a ha h0; omega
    · cases e
  rintro v w4 ⟨A4, Ao, no, co, vals, rfl, hst4⟩
  have hok4 := Df.feed_ok' (s := ⟨0#32, 100, [], false, false, 0⟩) (D := 0) ⟨by decide, by decide, by decide, by decide⟩ l
  generalize hx : (Df.feed ⟨0#32, 100, [], false, false, 0⟩ l).1 = x at *
  generalize (Df.feed ⟨0#32, 100, [], false, false, 0⟩ l).2 = fs0 at *
  have hxm : x.most = 100 := by rw [← hx]; exact Df.feed_most _ _
  have k4 : Keep No W w4 := k3.toNo hst4.keep (by rintro i (h | ⟨_, h, _⟩) <;> first | omega | cases h)
  have s4 := hst4.keep.size
  have hg4 : DfA w4 w2.heap.size none ⟨m, 100, [], false, false, 0⟩ := hdg.keep hst4.keep (by
    rintro i (h | ⟨_, h, _⟩)
    · rintro (e | ⟨_, e, _⟩)
      · omega
      · cases e
    · cases h)
  have hb4 := hst4.buf
  (conv => whnf)
  refine (dropped_ok _ hst4.df).mono ?_
  rintro v w4' ⟨rfl, rfl⟩
  (conv => whnf)
  refine (reset_ok _ m hst4.df (by rw [hxm]; omega)).mono ?_
  rintro v w5 ⟨rfl, hd5, hk5⟩
  have hx5 : ({ x with accm := m, b := [], long := false, esc := false } : Df) = { (⟨m, 100, [], false, false, 0⟩ : Df) with dropped := 0 + x.dropped } := by
    cases x
    simp only at hxm
    subst hxm
    simp
  rw [hx5] at hd5
  have k5 : Keep No W w5 := k4.toNo hk5 (fun i h => by omega)
  have s5 := hk5.size
  have hg5 : DfA w5 w2.heap.size none ⟨m, 100, [], false, false, 0⟩ := hg4.keep hk5 (by
    rintro i (h | ⟨_, h, _⟩) e
    · omega
    · cases h)
  (conv => whnf)
  refine (feed_okE (D := x.dropped) _ hd5 ⟨by dsimp only; omega, by dsimp only; omega, by simp, by simp⟩ (ht.keepNo k5) (fun a ha h0 => ?_) (fun a ha h0 => Nat.lt_of_lt_of_le (hbB a ha h0) k5.size) (by have := hok4.d; omega) (by omega)).mono ?_
  · rintro (e | ⟨_, e, _⟩)
    · have := hbB a ha h0; omega
    · cases e
  rintro v w6 ⟨A6, Ax, nx, cx, vx, rfl, hst6⟩
  have hfd := Df.feed_drop x.dropped r ⟨m, 100, [], false, false, 0⟩
  rw [hfd] at hst6
  dsimp only at hst6
  have k6 : Keep No W w6 := k5.toNo hst6.keep (by rintro i (h | ⟨_, h, _⟩) <;> first | omega | cases h)
  have s6 := hst6.keep.size
  have hg6 : DfA w6 w2.heap.size none ⟨m, 100, [], false, false, 0⟩ := hg5.keep hst6.keep (by
    rintro i (h | ⟨_, h, _⟩)
    · rintro (e | ⟨_, e, _⟩)
      · omega
      · cases e
    · cases h)
  (conv => whnf)
  refine (feed_okE (D := 0) _ hg6 ⟨by dsimp only; omega, by dsimp only; omega, by simp, by simp⟩ (ht.keepNo k6) (fun a ha h0 => ?_) (fun a ha h0 => Nat.lt_of_lt_of_le (hbB a ha h0) k6.size) (by omega) (by omega)).mono ?_
  · rintro (e | ⟨_, e, _⟩)
    · have := hbB a ha h0; omega
    · cases e
  rintro v w7 ⟨A7, Ay, ny, cy, vy, rfl, hst7⟩
  have k7 : Keep No W w7 := k6.toNo hst7.keep (by rintro i (h | ⟨_, h, _⟩) <;> first | omega | cases h)
  -- what the first told is still there
  have hkg : Keep (fun k => k = w2.heap.size) w6 w7 := hst7.keep.mono (by rintro i _ (h | ⟨_, h, _⟩); (· exact h); cases h)
  obtain ⟨n0, c0, hb0, ho0⟩ := hg6
  have sx : Sl w7 1 Ax nx vx := (Sl.ofOwn hst6.out).keep hkg (fun a ha e => hst6.out.type_ne ha hb0 (by decide) e)
  have ex := hst6.els.keep hkg (by
    rintro i ⟨_, _, _, _, h5⟩ e
    exact Ty.ne h5 hb0.ty (by decide) e)
  have hdf7 := hst6.df.keep hkg (by
    rintro i (h | ⟨a, ha, h⟩) e
    · omega
    · rcases hst6.buf a ha with ⟨_, e, _⟩ | e'
      · cases e
      · omega)
  have hnx := hst6.no_len
  have hfl := Df.feed_len ⟨m, 100, [], false, false, 0⟩ r
  (conv => whnf)
  refine (frames_ok _ sx ex (Sl.ofOwn hst7.out) hst7.els (by omega) (by
    intro f hf
    have := Df.feed_each (s := ⟨m, 100, [], false, false, 0⟩) (D := 0) ⟨by dsimp only; omega, by dsimp only; omega, by simp, by simp⟩ r f hf
    omega)).mono ?_
  rintro v w8 ⟨rfl, hk8⟩
  rw [decide_eq_true rfl]
  (conv => whnf)
  refine (dropped_ok _ (hdf7.keepNo hk8)).mono ?_
  rintro v w9 ⟨rfl, rfl⟩
  (conv => whnf)
  refine (dropped_ok _ (hst7.df.keepNo hk8)).mono ?_
  rintro v w10 ⟨rfl, rfl⟩
  have hokr := Df.feed_ok' (s := ⟨m, 100, [], false, false, 0⟩) (D := 0) ⟨by dsimp only; omega, by dsimp only; omega, by simp, by simp⟩ r
  have hd4 := hok4.d
  have hdr := hokr.d
  (conv => whnf)
  refine VRes.i64 (by omega) ?_
  (conv => whnf)
  refine VCmp.mk (fun h6 => ?_) (fun h6 => ?_)
  · (conv => whnf)
    exact ⟨rfl, k7.trans hk8⟩
  · exfalso
    apply h6
    dsimp only
    omega

/-! ### The statement -/
theorem stuffResets_own : ownKnob Try.prog.godebug = none := by kernel_rfl
theorem stuffResets_laid : laidOutB Try.prog = true := by kernel_rfl
set_option maxRecDepth 100000 in
theorem stuffResets_lifted (os : Os) (started : os.Started) (H : Type) (enc : TypeId × Value → H) :
    ReturnsInHanded {} Try.checked os 3 .any (Rows.stuffResetsSpec.pre6 enc Try.prog Try.f3 Rows.stuffResetsRow.domain false) (Rows.stuffResetsSpec.post enc Try.prog Try.f3 false true false false) := by
  refine returnsInHanded_of_change (C := Try.checked) stuffResets_own started (by kernel_rfl) Try.func3
    (ChangeSpec.witness6 (enc := enc) (C := Try.checked) false ⟨#[], #[.slice none 0 0, .slice none 0 0, .int .u32 0], []⟩ 8 (by kernel_rfl) (by kernel_rfl) (by kernel_rfl) (by kernel_rfl)) ?_
  intro W base args ds gs before hval0 hW hcnd _
  have hval : ∀ (j : Nat) t v, Try.f3.params[j]? = some t → args[j]? = some v → Value.okWide Try.prog W .any base t v := hval0
  have hW' := hW
  obtain ⟨p, q, hA0, hV, rfl, hfz, hnd⟩ := hW
  have hA : DataW.TrodAll enc Try.prog W 0 (fun _ => true) true Try.f3.params.toList args.toList ds p := hA0
  rw [Try.params3] at hA hval
  obtain ⟨v0, vs0, d0, ds0, p0, q0, hargs, rfl, rfl, h0, r0⟩ := trodAll_cons hA
  obtain ⟨v1, vs1, d1, ds1, p1, q1, rfl, rfl, rfl, h1, r1⟩ := trodAll_cons r0
  obtain ⟨v2, vs2, d2, ds2, p2, q2, rfl, rfl, rfl, h2, r2⟩ := trodAll_cons r1
  obtain ⟨rfl, rfl, rfl⟩ := trodAll_nil r2
  obtain rfl : args = #[v0, v1, v2] := by cases args; simp_all
  obtain ⟨rfl, rfl⟩ := trodVars_none hV
  have k0 := h0
  have lt0 : ∀ x ∈ p0, x.block < W.heap.size := by obtain ⟨m, hm⟩ := k0; exact DataW.trod_lt m _ _ _ hm
  obtain ⟨aa0, la0, ca0, rfl⟩ := okWide_slice Try.underlying22 (hval 0 22 v0 rfl rfl)
  obtain ⟨fuel0, hf0⟩ := h0
  obtain ⟨A0, n0, c0, l0, e0, s0, ln0, nc0, cc0, b0⟩ := open_bytes Try.underlying22 Try.underlying5 (by kernel_rfl) hf0
  cases e0
  have k1 := h1
  have lt1 : ∀ x ∈ p1, x.block < W.heap.size := by obtain ⟨m, hm⟩ := k1; exact DataW.trod_lt m _ _ _ hm
  obtain ⟨aa1, la1, ca1, rfl⟩ := okWide_slice Try.underlying22 (hval 1 22 v1 rfl rfl)
  obtain ⟨fuel1, hf1⟩ := h1
  obtain ⟨A1, n1, c1, l1, e1, s1, ln1, nc1, cc1, b1⟩ := open_bytes Try.underlying22 Try.underlying5 (by kernel_rfl) hf1
  cases e1
  have k2 := h2
  have lt2 : ∀ x ∈ p2, x.block < W.heap.size := by obtain ⟨m, hm⟩ := k2; exact DataW.trod_lt m _ _ _ hm
  obtain ⟨a2, rfl, rfl, rfl, w2⟩ := open_int Try.underlying23 (hval 2 23 v2 rfl rfl) h2
  obtain ⟨m2, rfl⟩ := word_of w2
  clear hA0 hval0
  refine (VC.law (stuffResets_ok W aa0 la0 ca0 l0 s0 nc0 cc0 b0 aa1 la1 ca1 l1 s1 nc1 cc1 b1 m2)).mono fun e W' ⟨he, bel⟩ => ?_
  subst he
  exact ⟨_, rfl, _, _, _, [], _, [], hW', trodAll_mk1 (shut_bool Try.underlying4 _), (trodAll_cons_mk (Below.trod stuffResets_laid (by kernel_rfl) (of_decide_eq_true (by kernel_rfl)) k0 bel lt0) (trodAll_cons_mk (Below.trod stuffResets_laid (by kernel_rfl) (of_decide_eq_true (by kernel_rfl)) k1 bel lt1) (trodAll_cons_mk (Below.trod stuffResets_laid (by kernel_rfl) (of_decide_eq_true (by kernel_rfl)) k2 bel lt2) trodAll_mk0))), rfl, bel.frame _, fun h => by cases h⟩

theorem stuffResets_over : Rows.stuffResetsRow.holds Try.pinned (OpenSpec.ofChange Rows.stuffResetsSpec) :=
  OpenClaim.holds_of_wide 3 Try.f3 rfl rfl rfl rfl rfl rfl rfl ⟨rfl, rfl, rfl, rfl, rfl⟩ rfl rfl rfl rfl rfl (by kernel_rfl) Try.func3 (by kernel_rfl)
    (of_decide_eq_true (by kernel_rfl)) (by unfold Func.isWrapper; first | (rw [if_pos (by decide +kernel)]; kernel_rfl) | (rw [if_neg (by decide +kernel)]; exact ⟨rfl, rfl⟩))
    (fun os started H enc _ => stuffResets_lifted os started H enc)

theorem stuffResets_proved : Rows.StuffResetsSaid := stuffResets_over
#print axioms stuffResets_proved
end Go.Proofs.Ytgjengcmopgngab
