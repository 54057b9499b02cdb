/-
  Law 18: blocks cut short, and more behind them. For every input.
-/
import Derived.Test.YtgmopcbfgcagaaaDoorJ13
import Derived.Test.YtgmopcbfgcagaaaDoorLi
import Derived.Test.YtgmopcbfgcagaaaDoorVl
namespace Go.Proofs.YtgmopcbfgcagaaaDoor
open Go V Go.ChangeShapes Go.WideShapes Go.ChangeAt Go.RowKit

theorem cut_at (a : Int) {u : Nat} (hu : 0 < u) : ∃ k : Nat, k < u ∧ (a.tmod u + u).tmod u = (k : Int) ∧ -(u : Int) < a.tmod u ∧ a.tmod u < (u : Int) := by
  have h1 : -(u : Int) < a.tmod u := by
    rcases Int.le_total 0 a with h | h
    · have := Int.tmod_eq_emod_of_nonneg (b := (u : Int)) h
      have := Int.emod_nonneg a (show (u : Int) ≠ 0 by omega)
      omega
    · have e : a.tmod u = -((-a).tmod u) := by rw [Int.neg_tmod]; omega
      have := Int.tmod_lt_of_pos (-a) (show (0 : Int) < u by omega)
      omega
  have h2 : a.tmod u < (u : Int) := Int.tmod_lt_of_pos a (by omega)
  have h3 : (a.tmod u + u).tmod u = (a.tmod u + u) % u := Int.tmod_eq_emod_of_nonneg (by omega)
  have h4 := Int.emod_nonneg (a.tmod u + u) (show (u : Int) ≠ 0 by omega)
  have h5 := Int.emod_lt_of_pos (a.tmod u + u) (show (0 : Int) < u by omega)
  exact ⟨((a.tmod u + u) % u).toNat, by omega, by rw [h3]; omega, h1, h2⟩

set_option maxRecDepth 100000 in
set_option maxHeartbeats 4000000 in
theorem inflateCuts_ok (W : World) (hg : EtOk W) (A : Option Addr) (n c : Nat) (l : List UInt8) (hs : Sl W 1 A n (l.map vb)) (hnc : n ≤ c) (_ : c ≤ 9223372036854775807) (_ : ∀ a, A = some a → 0 < n → a.block < W.heap.size) (z : Int) (hz : -9223372036854775808 ≤ z ∧ z ≤ 9223372036854775807)
    (B : Option Addr) (m d : Nat) (zs : List UInt8) (ht : Sl W 1 B m (zs.map vb)) (_ : m ≤ d) (_ : d ≤ 9223372036854775807) (_ : ∀ a, B = some a → 0 < m → a.block < W.heap.size) :
    VC Tryd.prog 4 [.slice A n c, .int .i64 z, .slice B m d] W (fun v w' => v = .bool true ∧ Keep No W w') := by
  have hl : l.length = n := by simpa using hs.len
  have hm' : zs.length = m := by simpa using ht.len
  refine VC.of tt_ok Tryd.func4 rfl (by decide +kernel) (Nat.le_of_ble_eq_true rfl) ?_; (conv => whnf)
  refine (awake18_ok W hg).mono ?_
  rintro v w1 ⟨rfl, kp1⟩
  (conv => whnf)
  refine VCmp.mk (fun h => ?_) (fun h => ?_) <;> (conv => whnf)
  · exact ⟨rfl, kp1⟩
  refine VCmp.mk (fun h2 => ?_) (fun h2 => ?_) <;> (conv => whnf)
  · exact ⟨rfl, kp1⟩
  have hn : n ≤ 400 := by omega
  have hm : m ≤ 100 := by omega
  have hX := Blocks_ok w1 (hg.keepNo kp1) (b := l) (hist := []) (most := 3000) (d := 0) (B := none) (hs.keepNo kp1) Sl.nil (by omega) (Nat.zero_le _) (Nat.le_refl _) (by omega) (c := c)
  have hmore := fun s => @blocks_more l zs 3000 (by rw [List.length_append]; omega) (by omega) s
  have hless := fun s k => @blocks_less l 3000 k (by omega) (by omega) s
  have hfine := fun s => @blocksF_fine (8 * l.length + 1) (startS l [] 3000) s (start_fine (by omega) (by omega))
  obtain ⟨X, eX⟩ : ∃ X, X = blocksF (8 * l.length + 1) (startS l [] 3000) := ⟨_, rfl⟩
  rw [← eX] at hX hmore hless hfine
  clear eX
  refine hX.mono ?_
  rintro v w2 ⟨hv, k2⟩
  have kp2 := kp1.trans k2
  cases X with
  | error e =>
    obtain ⟨rfl, hne⟩ := hv
    (conv => whnf)
    refine VCmp.mk (fun _ => ?_) (fun h => absurd h (by omega)); (conv => whnf)
    exact ⟨rfl, kp2⟩
  | ok s1 =>
  have hmore := hmore s1 rfl
  have hfine := hfine s1 rfl
  have hless := fun k => hless s1 k rfl
  obtain ⟨A2, c2, rfl, ho2⟩ := hv
  obtain ⟨⟨_, g1, _, g6, _⟩, g2, _, g4, g3⟩ := hfine
  have g4 : s1.most = 3000 := g4
  have g2 : s1.l.length = n := by rw [g2]; exact hl
  have g3 : 1 ≤ s1.at_ := by have : (startS l [] 3000).at_ = 0 := rfl; omega
  obtain ⟨U, hU⟩ : ∃ U, U = (s1.at_ + 7) / 8 := ⟨_, rfl⟩
  rw [← hU] at hless
  rw [← hU]
  obtain ⟨O, hO⟩ : ∃ O, O = s1.all.drop s1.from_ := ⟨_, rfl⟩
  have hOl : O.length ≤ 3000 := by rw [hO, List.length_drop]; omega
  rw [← hO] at ho2
  rw [← hO]
  (conv => whnf)
  refine VCmp.mk (fun h => absurd rfl h) (fun _ => ?_); (conv => whnf)
  refine (copy_ok w2 (hs.keepNo kp2) (by omega)).mono ?_
  rintro v w3 ⟨A3, c3, rfl, ho3, k3⟩
  have kp3 := kp2.trans k3
  (conv => whnf)
  refine app8 (w0 := w2) k3 ho3 (ht.keepNo kp3) (by omega) ?_
  intro A4 c4 w4 ho4 k4 _ _
  have kp4 := kp2.trans k4
  have e4 : (l ++ zs).length = n + m := by rw [List.length_append]; omega
  (conv => whnf)
  have hY := Blocks_ok w4 (hg.keepNo kp4) (b := l ++ zs) (hist := []) (most := 3000) (d := 0) (B := none) (Sl.ofOwn ho4) Sl.nil (by omega) (Nat.zero_le _) (Nat.le_refl _) (by omega) (c := c4)
  rw [hmore] at hY
  refine hY.mono ?_
  rintro v w5 ⟨hv, k5⟩
  have kp5 := kp4.trans k5
  dsimp only at hv
  rw [← hU, ← hO] at hv
  obtain ⟨A5, c5, rfl, ho5⟩ := hv
  (conv => whnf)
  refine VCmp.mk (fun h => absurd rfl h) (fun _ => ?_); (conv => whnf)
  refine VCmp.mk (fun h => absurd rfl h) (fun _ => ?_); (conv => whnf)
  refine (same_ok w5 ((Sl.ofOwn ho2).keepNo (k4.trans k5)) (Sl.ofOwn ho5) ?_).mono ?_
  · omega
  rintro v w6 ⟨rfl, k6⟩
  have kp6 := kp5.trans k6
  rw [decide_eq_true rfl]
  (conv => whnf)
  refine VCmp.mk (fun h => absurd h (by omega)) (fun _ => ?_); (conv => whnf)
  refine VCmp.mk (fun h => absurd h (by omega)) (fun _ => ?_); (conv => whnf)
  obtain ⟨k, hk1, hk2, hk3, hk4⟩ := cut_at z (u := U) (by omega)
  refine VReq.mk (by omega) ?_
  refine VRes.raw ?_
  (conv => whnf)
  refine VRes.i64 (by omega) ?_
  (conv => whnf)
  refine VReq.mk (by omega) ?_
  refine VRes.raw ?_
  rw [hk2]
  (conv => whnf)
  refine VCut.by_ 0 k rfl rfl (by omega) (by omega) ?_
  intro A7 hA7
  have h7 := Sl.cut8 (hs.keepNo kp6) (l := 0) (h := k) (by omega) (by omega) hnc (A' := A7) hA7
  rw [List.drop_zero, Nat.sub_zero] at h7
  rw [Nat.sub_zero]
  (conv => whnf)
  have hV := Blocks_ok w6 (hg.keepNo kp6) (b := l.take k) (hist := []) (most := 3000) (d := 0) (B := none) h7 Sl.nil (by omega) (Nat.zero_le _) (Nat.le_refl _) (by omega) (c := c - 0)
  rw [hless k hk1] at hV
  refine hV.mono ?_
  rintro v w7 ⟨hv, k7⟩
  obtain ⟨rfl, _⟩ := hv
  (conv => whnf)
  refine VCmp.mk (fun _ => ?_) (fun h => absurd rfl h); (conv => whnf)
  exact ⟨rfl, kp6.trans k7⟩

/-! ### The statement -/
theorem inflateCuts_own : ownKnob Tryd.prog.godebug = none := by kernel_rfl
theorem inflateCuts_laid : laidOutB Tryd.prog = true := by kernel_rfl
set_option maxRecDepth 100000 in
theorem inflateCuts_lifted (os : Os) (started : os.Started) (H : Type) (enc : TypeId × Value → H) :
    ReturnsInHanded {} Tryd.checked os 4 .any (fun w args => (Rows.inflateCutsSpec.pre enc Tryd.prog Tryd.f4 Rows.inflateCutsRow.domain false w args ∧ laidMetH Tryd.prog laidL w) ∧ sizedMet enc Tryd.prog Tryd.f4 (OpenSpec.ofChange Rows.inflateCutsSpec) false w args) (Rows.inflateCutsSpec.post enc Tryd.prog Tryd.f4 false true false false) := by
  refine returnsInHanded_of_change_and (C := Tryd.checked) (X := fun w _ => laidMetH Tryd.prog laidL w) (fun _ _ _ hh h => h.of_heap hh) inflateCuts_own started (by kernel_rfl) Tryd.func4
    (ChangeSpec.witness_at (enc := enc) (C := Tryd.checked) (os := os) (X := fun w _ => laidMetH Tryd.prog laidL w) false (laidWorld os) #[.slice none 0 0, .int .i64 0, .slice none 0 0] 8 (by first | rfl | exact laidWorld_os os) (by kernel_rfl) (by kernel_rfl) (by kernel_rfl) (by kernel_rfl) (by kernel_rfl) (laidWorld_met os _)) ?_
  intro W base args ds gs before hval0 hW hcnd _ hL _
  have hg := handle_of_laid hL
  have hval : ∀ (j : Nat) t v, Tryd.f4.params[j]? = some t → args[j]? = some v → Value.okWide Tryd.prog W .any base t v := hval0
  have hW' := hW
  obtain ⟨p, q, hA0, hV, rfl, hfz, hnd⟩ := hW
  have hA : DataW.TrodAll enc Tryd.prog W 0 (fun _ => true) true Tryd.f4.params.toList args.toList ds p := hA0
  rw [Tryd.params4] at hA hval
  obtain ⟨v0, vs0, d0, ds0, p0, q0, hargs, rfl, rfl, h0, r0⟩ := trodAll_cons hA
  obtain ⟨v1, vs1, d1, ds1, p1, q1, rfl, rfl, rfl, h1, r1⟩ := trodAll_cons r0
  obtain ⟨v2, vs2, d2, ds2, p2, q2, rfl, rfl, rfl, h2, r2⟩ := trodAll_cons r1
  obtain ⟨rfl, rfl, rfl⟩ := trodAll_nil r2
  obtain rfl : args = #[v0, v1, v2] := by cases args; simp_all
  obtain ⟨rfl, rfl⟩ := trodVars_none hV
  have k0 := h0
  have lt0 : ∀ x ∈ p0, x.block < W.heap.size := by obtain ⟨m, hm⟩ := k0; exact DataW.trod_lt m _ _ _ hm
  obtain ⟨aa0, la0, ca0, rfl⟩ := okWide_slice Tryd.underlying22 (hval 0 22 v0 rfl rfl)
  obtain ⟨fuel0, hf0⟩ := h0
  obtain ⟨A0, n0, c0, l0, e0, s0, ln0, nc0, cc0, b0⟩ := open_bytes Tryd.underlying22 Tryd.underlying5 (by kernel_rfl) hf0
  cases e0
  have k1 := h1
  have lt1 : ∀ x ∈ p1, x.block < W.heap.size := by obtain ⟨m, hm⟩ := k1; exact DataW.trod_lt m _ _ _ hm
  obtain ⟨a1, rfl, rfl, rfl, w1⟩ := open_int Tryd.underlying3 (hval 1 3 v1 rfl rfl) h1
  have k2 := h2
  have lt2 : ∀ x ∈ p2, x.block < W.heap.size := by obtain ⟨m, hm⟩ := k2; exact DataW.trod_lt m _ _ _ hm
  obtain ⟨aa2, la2, ca2, rfl⟩ := okWide_slice Tryd.underlying22 (hval 2 22 v2 rfl rfl)
  obtain ⟨fuel2, hf2⟩ := h2
  obtain ⟨A2, n2, c2, l2, e2, s2, ln2, nc2, cc2, b2⟩ := open_bytes Tryd.underlying22 Tryd.underlying5 (by kernel_rfl) hf2
  cases e2
  clear hA0 hval0
  refine (VC.law (inflateCuts_ok W hg aa0 la0 ca0 l0 s0 nc0 cc0 b0 a1 (int_of w1) aa2 la2 ca2 l2 s2 nc2 cc2 b2)).mono fun e W' ⟨he, bel⟩ => ?_
  subst he
  exact ⟨_, rfl, _, _, _, [], _, [], hW', trodAll_mk1 (shut_bool Tryd.underlying4 _), (trodAll_cons_mk (Below.trod inflateCuts_laid (by kernel_rfl) (of_decide_eq_true (by kernel_rfl)) k0 bel lt0) (trodAll_cons_mk (Below.trod inflateCuts_laid (by kernel_rfl) (of_decide_eq_true (by kernel_rfl)) k1 bel lt1) (trodAll_cons_mk (Below.trod inflateCuts_laid (by kernel_rfl) (of_decide_eq_true (by kernel_rfl)) k2 bel lt2) trodAll_mk0))), rfl, bel.frame _, fun h => by cases h⟩

theorem inflateCuts_over : Rows.inflateCutsRow.holds Tryd.pinned (OpenSpec.ofChange Rows.inflateCutsSpec) :=
  OpenClaim.holds_of_wide 4 Tryd.f4 rfl rfl rfl rfl rfl rfl rfl ⟨rfl, rfl, rfl, rfl, rfl⟩ rfl rfl rfl rfl rfl (by kernel_rfl) Tryd.func4 (by kernel_rfl)
    (of_decide_eq_true (by kernel_rfl)) (by unfold Func.isWrapper; first | (rw [if_pos (by decide +kernel)]; kernel_rfl) | (rw [if_neg (by decide +kernel)]; exact ⟨rfl, rfl⟩))
    (fun os started H enc _ => inflateCuts_lifted os started H enc)


theorem inflateCuts_proved : Rows.InflateCutsCardSaid :=
  Claim7.holds_tied_plain_at .later [] [.handle] true (true, "12487687b0f2a4e326227b334f4ab789487ca98c6e08befe4bc67b2096b1f006") true
    inflateCuts_over (fun _ h => by cases h) (by kernel_rfl) (fun _ h => by cases h) inflateCuts_row_tie rfl ⟨rfl, rfl⟩ (by kernel_rfl) rfl
    (fun f fn hf hfn => by
      obtain rfl : f = 4 := Option.some.inj ((show Tryd.prog.funcNamed "fairlead/fairleadlaw18.InflateCuts" = some 4 by kernel_rfl).symm.trans hf) |>.symm
      obtain rfl : fn = Tryd.f4 := (Option.some.inj (Tryd.func4.symm.trans hfn)).symm
      exact ⟨by kernel_rfl, fun j t ht => by
        rw [Tryd.params4] at ht
        exact (match j, ht with
      | 0, ht => by obtain rfl : 22 = t := (by simpa using ht); kernel_rfl
      | 1, ht => by obtain rfl : 3 = t := (by simpa using ht); kernel_rfl
      | 2, ht => by obtain rfl : 22 = t := (by simpa using ht); kernel_rfl
      | j + 3, ht => by simp at ht)⟩)
    (by kernel_rfl)
#print axioms inflateCuts_proved
end Go.Proofs.YtgmopcbfgcagaaaDoor
