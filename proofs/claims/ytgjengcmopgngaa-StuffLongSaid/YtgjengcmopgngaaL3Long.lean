/-
  StuffLong: a frame of just the most bytes is told, one of a byte more is dropped; the next one is told. For every input.
-/
import Derived.Test.YtgjengcmopgngaaSt8
import Derived.Test.YtgjengcmopgngaaRows
import Derived.Test.YtgjengcmopgngaaVl
namespace Go.Proofs.Ytgjengcmopgngaa
open Go V Go.ChangeShapes Go.WideShapes Go.ChangeAt Go.RowKit
open Go.ChangeMaps (open_string shut_string)

theorem stuffLong_ok (W : World) (A : Option Addr) (n c : Nat) (l : List UInt8) (hs : Sl W 1 A n (l.map vb)) (hnc : n ≤ c) (_ : c ≤ 9223372036854775807) (_ : ∀ a, A = some a → 0 < n → a.block < W.heap.size)
    (B : Option Addr) (n' c' : Nat) (r : List UInt8) (ht : Sl W 1 B n' (r.map vb)) (htc : n' ≤ c') (_ : c' ≤ 9223372036854775807) (_ : ∀ a, B = some a → 0 < n' → a.block < W.heap.size) (m : BitVec 32) :
    VC Try.prog 7 [.slice A n c, .slice B n' c', vw m] W (fun v w' => v = .bool true ∧ Keep No W w') := by
  have hl : l.length = n := by simpa using hs.len
  have hr : r.length = n' := by simpa using ht.len
  refine VC.of tt_ok Try.func7 rfl (by decide +kernel) (Nat.le_of_ble_eq_true rfl) ?_; (conv => whnf)
  refine (awake_ok W).mono ?_
  rintro v w1 ⟨rfl, hk1⟩
  (conv => whnf)
  refine VCmp.mk (fun h => ?_) (fun h => ?_) <;> (conv => whnf)
  · exact ⟨rfl, hk1⟩
  refine VCmp.mk (fun h2 => ?_) (fun h2 => ?_) <;> (conv => whnf)
  · exact ⟨rfl, hk1⟩
  refine VCmp.mk (fun h3 => ?_) (fun h3 => ?_) <;> (conv => whnf)
  · exact ⟨rfl, hk1⟩
  refine VCmp.mk (fun h4 => ?_) (fun h4 => ?_) <;> (conv => whnf)
  · exact ⟨rfl, hk1⟩
  refine (new_ok _ 0#32 n (by omega)).mono ?_
  rintro v w2 (⟨h, _⟩ | ⟨q, hq, q1, q2, rfl, hdf, hk2⟩)
  · omega
  obtain rfl : n = q := by omega
  have hk02 := hk1.trans hk2
  (conv => whnf)
  (repeat' (first  | (refine VCmp.mk (fun h => ?_) (fun h => ?_) <;> first | (exfalso; omega) | (conv => whnf))  | (refine VRes.i64 (by omega) ?_; conv => whnf)  | (refine VReq.mk (by omega) ?_; conv => whnf)))
  have hsub : ∀ c, mapB c 0#32 = true → mapB c m = true := fun c h => by rw [mapB_zero] at h; cases h
  -- x
  refine (stuff_ok _ A n c l m (hs.keepNo hk02) (by omega)).mono ?_
  rintro v w3 ⟨A3, n3, c3, rfl, ho3, hk3⟩
  have hn3 := Own.len8 ho3
  have hb3 := stuffed_len m l
  refine (feed_own (D := 0) _ (hdf.keepNo hk3) ⟨by dsimp only; omega, by dsimp only; omega, by simp, by simp⟩ ho3 hdf.lt (by omega) (by omega)).mono ?_
  rintro v w4 ⟨A4, Ao, no, co, vals, rfl, hst4⟩
  have hc0 : Df.clean ⟨0#32, n, [], false, false, 0⟩ := ⟨rfl, rfl, rfl⟩
  rw [Df.feed_stuffed m l _ hc0 hsub (by dsimp only; omega)] at hst4
  have hne : l ≠ [] := fun e => by subst e; simp at hl; omega
  rw [if_neg hne] at hst4
  have k4 : Keep No W w4 := ((hk02.trans hk3).toNo hst4.keep (by rintro i (h | ⟨_, h, _⟩) <;> first | (have := hk1.size; omega) | cases h))
  (conv => whnf)
  -- y
  refine (copy_ok _ (hs.keepNo k4) (by omega)).mono ?_
  rintro v w5 ⟨A5, c5, rfl, ho5, hk5⟩
  (conv => whnf)
  refine VFill.by_ rfl ?_
  (conv => whnf)
  refine ⟨fun w6 hb6 hk6 => ?_⟩
  (conv => whnf)
  refine app8one (w0 := w4) (x := 9) (hk5.trans hk6) (ho5.keepNo hk6) hb6 rfl (by omega) ?_
  intro A7 c7 w7 ho7 hk7 _ _
  (conv => whnf)
  refine (stuff_ok _ A7 (n + 1) c7 (l ++ [9]) m (Sl.ofOwn ho7) (by omega)).mono ?_
  rintro v w8 ⟨A8, n8, c8, rfl, ho8, hk8⟩
  have hn8 := Own.len8 ho8
  have hb8 := stuffed_len m (l ++ [9])
  have hdf7 := (hst4.df.keepNo hk7)
  have hll : (l ++ [9]).length = n + 1 := by simp [hl]
  refine (feed_own (D := 0) _ (hdf7.keepNo hk8) ⟨by dsimp only; omega, by dsimp only; omega, by simp, by simp⟩ ho8 hdf7.lt (by omega) (by omega)).mono ?_
  rintro v w9 ⟨A9, Ay, ny, cy, valsy, rfl, hst9⟩
  rw [Df.feed_long m (l ++ [9]) _ hc0 hsub (by dsimp only; omega)] at hst9
  have k8 := (k4.trans hk7).trans hk8
  have k9 : Keep No W w9 := k8.toNo hst9.keep (by
    rintro i (h | ⟨a, h, rfl⟩)
    · have := hk1.size; omega
    · rcases hst4.buf a h with ⟨_, h, _⟩ | h
      · cases h
      · have := (hk02.trans hk3).size; omega)
  have told9 : Told w9 w1.heap.size A9 Ao no vals [l] := ((hst4.told.keepNo hk7).keepNo hk8).step hst9.keep hst9.buf
  (conv => whnf)
  -- z
  refine (stuff_ok _ B n' c' r m (ht.keepNo k9) (by omega)).mono ?_
  rintro v w10 ⟨A10, n10, c10, rfl, ho10, hk10⟩
  have hn10 := Own.len8 ho10
  have hb10 := stuffed_len m r
  refine (feed_own (D := 1) _ (hst9.df.keepNo hk10) ⟨by dsimp only; omega, by dsimp only; omega, by simp, by simp⟩ ho10 hst9.df.lt (by omega) (by omega)).mono ?_
  rintro v w11 ⟨A11, Az, nz, cz, valsz, rfl, hst11⟩
  rw [Df.feed_stuffed m r _ ⟨rfl, rfl, rfl⟩ hsub (by dsimp only; omega)] at hst11
  have hner : r ≠ [] := fun e => by subst e; simp at hr; omega
  rw [if_neg hner] at hst11
  have k11 : Keep No W w11 := (k9.trans hk10).toNo hst11.keep (by
    rintro i (h | ⟨a, h, rfl⟩)
    · have := hk1.size; omega
    · rcases hst9.buf a h with ⟨a0, h0, h⟩ | h
      · rcases hst4.buf a0 h0 with ⟨_, h, _⟩ | h
        · cases h
        · have := (hk02.trans hk3).size; omega
      · have := k8.size; omega)
  have told11 := (told9.keepNo hk10).step hst11.keep hst11.buf
  obtain ⟨sx, _, X, ex, _⟩ := told11
  have hno := hst4.no_len
  have hny := hst9.no_len
  (conv => whnf)
  refine VFill.by_ rfl ?_
  (conv => whnf)
  refine ⟨fun w12 hb12 hk12 => ?_⟩
  (conv => whnf)
  have k12 := k11.trans hk12
  refine (frames_ok _ (sx.keepNo hk12) (ex.keep hk12 (fun _ _ => id)) (Sl.ofBlk (n := 1) (size := 1) hb12 rfl) (els_one (hs.keepNo k12) hnc) (by rw [hno]; exact Nat.le_of_ble_eq_true rfl) (by intro f hf; obtain rfl : f = l := (by simpa using hf); omega)).mono ?_
  rintro v w13 ⟨rfl, hk13⟩
  rw [decide_eq_true rfl]
  (conv => whnf)
  refine VCmp.mk (fun h5 => ?_) (fun h5 => ?_)
  rotate_left
  · exfalso; apply h5; rw [hny]; rfl
  (conv => whnf)
  refine VFill.by_ rfl ?_
  (conv => whnf)
  refine ⟨fun w14 hb14 hk14 => ?_⟩
  (conv => whnf)
  have hk1114 := (hk12.trans hk13).trans hk14
  have told14 := hst11.told.keepNo hk1114
  obtain ⟨sz, _, Z, ez, _⟩ := told14
  have hnz := hst11.no_len
  refine (frames_ok _ sz ez (Sl.ofBlk (n := 1) (size := 1) hb14 rfl) (els_one (ht.keepNo (k11.trans hk1114)) htc) (by rw [hnz]; exact Nat.le_of_ble_eq_true rfl) (by intro f hf; obtain rfl : f = r := (by simpa using hf); omega)).mono ?_
  rintro v w15 ⟨rfl, hk15⟩
  rw [decide_eq_true rfl]
  (conv => whnf)
  refine (dropped_ok _ ((hst11.df.keepNo hk1114).keepNo hk15)).mono ?_
  rintro v w16 ⟨rfl, rfl⟩
  (conv => whnf)
  refine VCmp.mk (fun h6 => ?_) (fun h6 => ?_) <;> first | (exfalso; exact h6 rfl) | (conv => whnf)
  exact ⟨rfl, (k11.trans hk1114).trans hk15⟩

/-! ### The statement -/
theorem stuffLong_own : ownKnob Try.prog.godebug = none := by kernel_rfl
theorem stuffLong_laid : laidOutB Try.prog = true := by kernel_rfl
set_option maxRecDepth 100000 in
theorem stuffLong_lifted (os : Os) (started : os.Started) (H : Type) (enc : TypeId × Value → H) :
    ReturnsInHanded {} Try.checked os 7 .any (Rows.stuffLongSpec.pre6 enc Try.prog Try.f7 Rows.stuffLongRow.domain false) (Rows.stuffLongSpec.post enc Try.prog Try.f7 false true false false) := by
  refine returnsInHanded_of_change (C := Try.checked) stuffLong_own started (by kernel_rfl) Try.func7
    (ChangeSpec.witness6 (enc := enc) (C := Try.checked) false ⟨#[], #[.slice none 0 0, .slice none 0 0, .int .u32 0], []⟩ 8 (by kernel_rfl) (by kernel_rfl) (by kernel_rfl) (by kernel_rfl)) ?_
  intro W base args ds gs before hval0 hW hcnd _
  have hval : ∀ (j : Nat) t v, Try.f7.params[j]? = some t → args[j]? = some v → Value.okWide Try.prog W .any base t v := hval0
  have hW' := hW
  obtain ⟨p, q, hA0, hV, rfl, hfz, hnd⟩ := hW
  have hA : DataW.TrodAll enc Try.prog W 0 (fun _ => true) true Try.f7.params.toList args.toList ds p := hA0
  rw [Try.params7] at hA hval
  obtain ⟨v0, vs0, d0, ds0, p0, q0, hargs, rfl, rfl, h0, r0⟩ := trodAll_cons hA
  obtain ⟨v1, vs1, d1, ds1, p1, q1, rfl, rfl, rfl, h1, r1⟩ := trodAll_cons r0
  obtain ⟨v2, vs2, d2, ds2, p2, q2, rfl, rfl, rfl, h2, r2⟩ := trodAll_cons r1
  obtain ⟨rfl, rfl, rfl⟩ := trodAll_nil r2
  obtain rfl : args = #[v0, v1, v2] := by cases args; simp_all
  obtain ⟨rfl, rfl⟩ := trodVars_none hV
  have k0 := h0
  have lt0 : ∀ x ∈ p0, x.block < W.heap.size := by obtain ⟨m, hm⟩ := k0; exact DataW.trod_lt m _ _ _ hm
  obtain ⟨aa0, la0, ca0, rfl⟩ := okWide_slice Try.underlying22 (hval 0 22 v0 rfl rfl)
  obtain ⟨fuel0, hf0⟩ := h0
  obtain ⟨A0, n0, c0, l0, e0, s0, ln0, nc0, cc0, b0⟩ := open_bytes Try.underlying22 Try.underlying5 (by kernel_rfl) hf0
  cases e0
  have k1 := h1
  have lt1 : ∀ x ∈ p1, x.block < W.heap.size := by obtain ⟨m, hm⟩ := k1; exact DataW.trod_lt m _ _ _ hm
  obtain ⟨aa1, la1, ca1, rfl⟩ := okWide_slice Try.underlying22 (hval 1 22 v1 rfl rfl)
  obtain ⟨fuel1, hf1⟩ := h1
  obtain ⟨A1, n1, c1, l1, e1, s1, ln1, nc1, cc1, b1⟩ := open_bytes Try.underlying22 Try.underlying5 (by kernel_rfl) hf1
  cases e1
  have k2 := h2
  have lt2 : ∀ x ∈ p2, x.block < W.heap.size := by obtain ⟨m, hm⟩ := k2; exact DataW.trod_lt m _ _ _ hm
  obtain ⟨a2, rfl, rfl, rfl, w2⟩ := open_int Try.underlying23 (hval 2 23 v2 rfl rfl) h2
  obtain ⟨m2, rfl⟩ := word_of w2
  clear hA0 hval0
  refine (VC.law (stuffLong_ok W aa0 la0 ca0 l0 s0 nc0 cc0 b0 aa1 la1 ca1 l1 s1 nc1 cc1 b1 m2)).mono fun e W' ⟨he, bel⟩ => ?_
  subst he
  exact ⟨_, rfl, _, _, _, [], _, [], hW', trodAll_mk1 (shut_bool Try.underlying4 _), (trodAll_cons_mk (Below.trod stuffLong_laid (by kernel_rfl) (of_decide_eq_true (by kernel_rfl)) k0 bel lt0) (trodAll_cons_mk (Below.trod stuffLong_laid (by kernel_rfl) (of_decide_eq_true (by kernel_rfl)) k1 bel lt1) (trodAll_cons_mk (Below.trod stuffLong_laid (by kernel_rfl) (of_decide_eq_true (by kernel_rfl)) k2 bel lt2) trodAll_mk0))), rfl, bel.frame _, fun h => by cases h⟩

theorem stuffLong_over : Rows.stuffLongRow.holds Try.pinned (OpenSpec.ofChange Rows.stuffLongSpec) :=
  OpenClaim.holds_of_wide 7 Try.f7 rfl rfl rfl rfl rfl rfl rfl ⟨rfl, rfl, rfl, rfl, rfl⟩ rfl rfl rfl rfl rfl (by kernel_rfl) Try.func7 (by kernel_rfl)
    (of_decide_eq_true (by kernel_rfl)) (by unfold Func.isWrapper; first | (rw [if_pos (by decide +kernel)]; kernel_rfl) | (rw [if_neg (by decide +kernel)]; exact ⟨rfl, rfl⟩))
    (fun os started H enc _ => stuffLong_lifted os started H enc)

theorem stuffLong_proved : Rows.StuffLongSaid := stuffLong_over
#print axioms stuffLong_proved
end Go.Proofs.Ytgjengcmopgngaa
