/-
  Law 18: packets that are taken, with just so much room, and with one less. For every input.
-/
import Derived.Test.YtgmopcbfgcagaaaDoorJ16
import Derived.Test.YtgmopcbfgcagaaaDoorLi
import Derived.Test.YtgmopcbfgcagaaaDoorVl
namespace Go.Proofs.YtgmopcbfgcagaaaDoor
open Go V Go.ChangeShapes Go.WideShapes Go.ChangeAt Go.RowKit

theorem InrV.other {w w' : World} {x y : Nat} {h1 h2 : List UInt8} (h : InrV w y h2) (hx : InrV w x h1) (k : Keep (fun k => k = x) w w') (hne : y ≠ x) : InrV w' y h2 := by
  obtain ⟨_, _, g1, _⟩ := hx
  exact h.keep k hne (fun i hi e => hi.ne g1.ty (by decide) e)
theorem InrV.apart {w : World} {y : Nat} {h1 : List UInt8} (h : InrV w y h1) {A : Option Addr} {n : Nat} {l : List UInt8} (hs : Sl w 1 A n (l.map vb)) (a : Addr) (ha : A = some a) (h0 : 0 < n) : a.block ≠ y := by
  obtain ⟨b, o, hA, hc⟩ := hs.at_ h0
  have hl : l.length = n := by simpa using hs.len
  rw [hA] at ha
  cases ha
  intro e
  have e : b = y := e
  subst e
  obtain ⟨H, c, g1, _⟩ := h
  have h2 := hc 0 (vb (l.getD 0 0)) (by rw [List.getElem?_map, List.getElem?_eq_getElem (by omega), List.getD_eq_getElem?_getD, List.getElem?_eq_getElem (by omega)]; rfl)
  rw [g1.cell, Nat.add_zero] at h2
  match o, h2 with
  | 0, h2 => cases h2
  | 1, h2 => cases h2
  | _ + 2, h2 => cases h2
theorem win_short {l : List UInt8} (h : l.length ≤ 32768) : win l = l := by
  unfold win
  rw [show l.length - 32768 = 0 from by omega, List.drop_zero]

set_option maxRecDepth 100000 in
set_option maxHeartbeats 4000000 in
theorem inflateMore_ok (W : World) (hg : EtOk W) (A : Option Addr) (n c : Nat) (l : List UInt8) (hs : Sl W 1 A n (l.map vb)) (hnc : n ≤ c) (_ : c ≤ 9223372036854775807) (_ : ∀ a, A = some a → 0 < n → a.block < W.heap.size)
    (B : Option Addr) (m d : Nat) (zs : List UInt8) (ht : Sl W 1 B m (zs.map vb)) (_ : m ≤ d) (_ : d ≤ 9223372036854775807) (_ : ∀ a, B = some a → 0 < m → a.block < W.heap.size) :
    VC Tryd.prog 6 [.slice A n c, .slice B m d] W (fun v w' => v = .bool true ∧ Keep No W w') := by
  have hl : l.length = n := by simpa using hs.len
  have hz : zs.length = m := by simpa using ht.len
  refine VC.of tt_ok Tryd.func6 rfl (by decide +kernel) (Nat.le_of_ble_eq_true rfl) ?_; (conv => whnf)
  refine (awake18_ok W hg).mono ?_
  rintro v w1 ⟨rfl, kp1⟩
  (conv => whnf)
  refine VCmp.mk (fun h => ?_) (fun h => ?_) <;> (conv => whnf)
  · exact ⟨rfl, kp1⟩
  refine VCmp.mk (fun h2 => ?_) (fun h2 => ?_) <;> (conv => whnf)
  · exact ⟨rfl, kp1⟩
  have hn : n ≤ 400 := by omega
  have hm : m ≤ 400 := by omega
  refine (inew_ok w1).mono ?_
  rintro v w2 ⟨⟨y1, rfl, i1, b1⟩, k2⟩
  have kp2 := kp1.trans k2
  have l1 := i1.lt
  (conv => whnf)
  refine (inew_ok w2).mono ?_
  rintro v w3 ⟨⟨y2, rfl, i2, b2⟩, k3⟩
  have kp3 := kp2.trans k3
  have i1 := i1.keepNo k3
  have l2 := i2.lt
  (conv => whnf)
  refine (inew_ok w3).mono ?_
  rintro v w4 ⟨⟨y3, rfl, i3, b3⟩, k4⟩
  have kp4 := kp3.trans k4
  have i1 := i1.keepNo k4
  have i2 := i2.keepNo k4
  have s1 := kp1.size
  have s2 := k2.size
  have s3 := k3.size
  have ezs : win ([] ++ zs) = zs := by rw [List.nil_append]; exact win_short (by omega)
  (conv => whnf)
  refine (iadd_ok w4 i1 (ht.keepNo kp4) (by omega) (by simp)).mono ?_
  rintro v w5 ⟨⟨rfl, j1⟩, k5⟩
  have kp5 := kp4.toNo k5 (fun i e => by subst e; omega)
  have i2 := i2.other i1 k5 (by omega)
  have i3 := i3.other i1 k5 (by omega)
  clear i1
  (conv => whnf)
  refine (iadd_ok w5 i2 (ht.keepNo kp5) (by omega) (by simp)).mono ?_
  rintro v w6 ⟨⟨rfl, j2⟩, k6⟩
  have kp6 := kp5.toNo k6 (fun i e => by subst e; omega)
  have j1 := j1.other i2 k6 (by omega)
  have i3 := i3.other i2 k6 (by omega)
  clear i2
  (conv => whnf)
  refine (iadd_ok w6 i3 (ht.keepNo kp6) (by omega) (by simp)).mono ?_
  rintro v w7 ⟨⟨rfl, j3⟩, k7⟩
  have kp7 := kp6.toNo k7 (fun i e => by subst e; omega)
  have j1 := j1.other i3 k7 (by omega)
  have j2 := j2.other i3 k7 (by omega)
  clear i3
  rw [ezs] at j1 j2 j3
  have htl : (tailB l).length = n + 4 := by unfold tailB; rw [List.length_append, hl]; rfl
  obtain ⟨Q, hQ⟩ : ∃ Q, Q = 8 * (tailB l).length + 1 := ⟨_, rfl⟩
  have hX := packet_ok w7 (hg.keepNo kp7) j1 (by omega) (c := c) (hs.keepNo kp7) (by omega) (most := 5000) (by omega)
  have hsame := fun s => @pack_same (tailB l) zs 5000 Q (by omega) (by omega) (by omega) s
  have hless := fun s M => @pack_less (tailB l) zs 5000 Q M (by omega) (by omega) (by omega) s
  have hfine := fun s => @packK_fine Q (startS (tailB l) zs 5000) s (startH_fine (by omega) (by omega) (by omega))
  rw [← hQ] at hX
  obtain ⟨X, eX⟩ : ∃ X, X = packK Q (startS (tailB l) zs 5000) := ⟨_, rfl⟩
  rw [← eX] at hX hsame hless hfine
  clear eX
  (conv => whnf)
  refine hX.mono ?_
  rintro v w8 ⟨hv, k8⟩
  have kp8 := kp7.toNo k8 (fun i e => by subst e; omega)
  have j2 := j2.other j1 k8 (by omega)
  have j3 := j3.other j1 k8 (by omega)
  clear j1 hX
  cases X with
  | error e =>
    obtain ⟨⟨rfl, hne⟩, j1⟩ := hv
    (conv => whnf)
    refine VCmp.mk (fun _ => ?_) (fun h => absurd h (by omega)); (conv => whnf)
    refine VCmp.mk (fun _ => ?_) (fun h => absurd rfl h); (conv => whnf)
    refine (ilen_ok w8 j1).mono ?_
    rintro v w9 ⟨rfl, rfl⟩
    (conv => whnf)
    refine VCmp.mk (fun _ => ?_) (fun h => absurd h (by omega)); (conv => whnf)
    exact ⟨rfl, kp8⟩
  | ok s =>
  have hsame := hsame s rfl
  have hless := fun M => hless s M rfl
  obtain ⟨⟨_, _, g3, g4, _⟩, g5, g6, g7⟩ := hfine s rfl
  have g6 : s.most = 5000 := g6
  obtain ⟨O, hO⟩ : ∃ O, O = s.all.drop s.from_ := ⟨_, rfl⟩
  have hOl : O.length ≤ 5000 := by rw [hO, List.length_drop]; omega
  obtain ⟨⟨A8, c8, rfl, so8⟩, j1⟩ := hv
  rw [← hO] at hsame hless so8 j1
  rw [← hO]
  have ewin : win (zs ++ O) = zs ++ O := win_short (by rw [List.length_append]; omega)
  rw [ewin] at j1
  have hzo : (zs ++ O).length = m + O.length := by rw [List.length_append, hz]
  (conv => whnf)
  refine VCmp.mk (fun h => absurd rfl h) (fun _ => ?_); (conv => whnf)
  have hX := packet_ok w8 (hg.keepNo kp8) j2 (by omega) (c := c) (hs.keepNo kp8) (by omega) (most := O.length) (by omega)
  rw [← hQ, hsame] at hX
  refine hX.mono ?_
  rintro v w9 ⟨hv, k9⟩
  have kp9 := kp8.toNo k9 (fun i e => by subst e; omega)
  have j1 := j1.other j2 k9 (by omega)
  have j3 := j3.other j2 k9 (by omega)
  have so8 := so8.keepP k9 (fun a ha h0 e => j2.apart so8 a ha h0 e)
  clear j2 hX
  have hv : (∃ A' c', v = .tuple #[.slice A' (s.all.drop s.from_).length c', .int .i64 0] ∧ Sl w9 1 A' (s.all.drop s.from_).length ((s.all.drop s.from_).map vb)) ∧ InrV w9 y2 (win (zs ++ s.all.drop s.from_)) := hv
  rw [← hO, ewin] at hv
  obtain ⟨⟨A9, c9, rfl, so9⟩, j2⟩ := hv
  (conv => whnf)
  refine VCmp.mk (fun h => absurd rfl h) (fun _ => ?_); (conv => whnf)
  refine (same_ok w9 so8 so9 (by omega)).mono ?_
  rintro v w10 ⟨rfl, k10⟩
  have kp10 := kp9.trans k10
  have j1 := j1.keepNo k10
  have j2 := j2.keepNo k10
  have j3 := j3.keepNo k10
  rw [decide_eq_true rfl]
  (conv => whnf)
  refine (ilen_ok w10 j1).mono ?_
  rintro v w11 ⟨rfl, rfl⟩
  (conv => whnf)
  refine VRes.i64 (by omega) ?_
  (conv => whnf)
  refine VCmp.mk (fun h => absurd h (by omega)) (fun _ => ?_); (conv => whnf)
  refine (ilen_ok w11 j2).mono ?_
  rintro v w12 ⟨rfl, rfl⟩
  (conv => whnf)
  refine (ilen_ok w12 j1).mono ?_
  rintro v w13 ⟨rfl, rfl⟩
  (conv => whnf)
  refine VCmp.mk (fun h => absurd rfl h) (fun _ => ?_); (conv => whnf)
  refine VCmp.mk (fun h3 => ?_) (fun h3 => ?_) <;> (conv => whnf)
  · exact ⟨rfl, kp10⟩
  refine VRes.i64 (by omega) ?_
  (conv => whnf)
  have hX := packet_ok w13 (hg.keepNo kp10) j3 (by omega) (c := c) (hs.keepNo kp10) (by omega) (most := O.length - 1) (by omega)
  rw [← hQ, hless (O.length - 1) (by omega)] at hX
  rw [show (O.length : Int) - 1 = ((O.length - 1 : Nat) : Int) from by omega]
  refine hX.mono ?_
  rintro v w14 ⟨hv, k14⟩
  obtain ⟨⟨rfl, _⟩, j3⟩ := hv
  have kp14 := kp10.toNo k14 (fun i e => by subst e; omega)
  (conv => whnf)
  refine VCmp.mk (fun _ => ?_) (fun h => absurd rfl h); (conv => whnf)
  refine (ilen_ok w14 j3).mono ?_
  rintro v w15 ⟨rfl, rfl⟩
  (conv => whnf)
  refine VCmp.mk (fun _ => ?_) (fun h => absurd h (by omega)); (conv => whnf)
  exact ⟨rfl, kp14⟩

/-! ### The statement -/
theorem inflateMore_own : ownKnob Tryd.prog.godebug = none := by kernel_rfl
theorem inflateMore_laid : laidOutB Tryd.prog = true := by kernel_rfl
set_option maxRecDepth 100000 in
theorem inflateMore_lifted (os : Os) (started : os.Started) (H : Type) (enc : TypeId × Value → H) :
    ReturnsInHanded {} Tryd.checked os 6 .any (fun w args => (Rows.inflateMoreSpec.pre enc Tryd.prog Tryd.f6 Rows.inflateMoreRow.domain false w args ∧ laidMetH Tryd.prog laidL w) ∧ sizedMet enc Tryd.prog Tryd.f6 (OpenSpec.ofChange Rows.inflateMoreSpec) false w args) (Rows.inflateMoreSpec.post enc Tryd.prog Tryd.f6 false true false false) := by
  refine returnsInHanded_of_change_and (C := Tryd.checked) (X := fun w _ => laidMetH Tryd.prog laidL w) (fun _ _ _ hh h => h.of_heap hh) inflateMore_own started (by kernel_rfl) Tryd.func6
    (ChangeSpec.witness_at (enc := enc) (C := Tryd.checked) (os := os) (X := fun w _ => laidMetH Tryd.prog laidL w) false (laidWorld os) #[.slice none 0 0, .slice none 0 0] 8 (by first | rfl | exact laidWorld_os os) (by kernel_rfl) (by kernel_rfl) (by kernel_rfl) (by kernel_rfl) (by kernel_rfl) (laidWorld_met os _)) ?_
  intro W base args ds gs before hval0 hW hcnd _ hL _
  have hg := handle_of_laid hL
  have hval : ∀ (j : Nat) t v, Tryd.f6.params[j]? = some t → args[j]? = some v → Value.okWide Tryd.prog W .any base t v := hval0
  have hW' := hW
  obtain ⟨p, q, hA0, hV, rfl, hfz, hnd⟩ := hW
  have hA : DataW.TrodAll enc Tryd.prog W 0 (fun _ => true) true Tryd.f6.params.toList args.toList ds p := hA0
  rw [Tryd.params6] at hA hval
  obtain ⟨v0, vs0, d0, ds0, p0, q0, hargs, rfl, rfl, h0, r0⟩ := trodAll_cons hA
  obtain ⟨v1, vs1, d1, ds1, p1, q1, rfl, rfl, rfl, h1, r1⟩ := trodAll_cons r0
  obtain ⟨rfl, rfl, rfl⟩ := trodAll_nil r1
  obtain rfl : args = #[v0, v1] := by cases args; simp_all
  obtain ⟨rfl, rfl⟩ := trodVars_none hV
  have k0 := h0
  have lt0 : ∀ x ∈ p0, x.block < W.heap.size := by obtain ⟨m, hm⟩ := k0; exact DataW.trod_lt m _ _ _ hm
  obtain ⟨aa0, la0, ca0, rfl⟩ := okWide_slice Tryd.underlying22 (hval 0 22 v0 rfl rfl)
  obtain ⟨fuel0, hf0⟩ := h0
  obtain ⟨A0, n0, c0, l0, e0, s0, ln0, nc0, cc0, b0⟩ := open_bytes Tryd.underlying22 Tryd.underlying5 (by kernel_rfl) hf0
  cases e0
  have k1 := h1
  have lt1 : ∀ x ∈ p1, x.block < W.heap.size := by obtain ⟨m, hm⟩ := k1; exact DataW.trod_lt m _ _ _ hm
  obtain ⟨aa1, la1, ca1, rfl⟩ := okWide_slice Tryd.underlying22 (hval 1 22 v1 rfl rfl)
  obtain ⟨fuel1, hf1⟩ := h1
  obtain ⟨A1, n1, c1, l1, e1, s1, ln1, nc1, cc1, b1⟩ := open_bytes Tryd.underlying22 Tryd.underlying5 (by kernel_rfl) hf1
  cases e1
  clear hA0 hval0
  refine (VC.law (inflateMore_ok W hg aa0 la0 ca0 l0 s0 nc0 cc0 b0 aa1 la1 ca1 l1 s1 nc1 cc1 b1)).mono fun e W' ⟨he, bel⟩ => ?_
  subst he
  exact ⟨_, rfl, _, _, _, [], _, [], hW', trodAll_mk1 (shut_bool Tryd.underlying4 _), (trodAll_cons_mk (Below.trod inflateMore_laid (by kernel_rfl) (of_decide_eq_true (by kernel_rfl)) k0 bel lt0) (trodAll_cons_mk (Below.trod inflateMore_laid (by kernel_rfl) (of_decide_eq_true (by kernel_rfl)) k1 bel lt1) trodAll_mk0)), rfl, bel.frame _, fun h => by cases h⟩

theorem inflateMore_over : Rows.inflateMoreRow.holds Tryd.pinned (OpenSpec.ofChange Rows.inflateMoreSpec) :=
  OpenClaim.holds_of_wide 6 Tryd.f6 rfl rfl rfl rfl rfl rfl rfl ⟨rfl, rfl, rfl, rfl, rfl⟩ rfl rfl rfl rfl rfl (by kernel_rfl) Tryd.func6 (by kernel_rfl)
    (of_decide_eq_true (by kernel_rfl)) (by unfold Func.isWrapper; first | (rw [if_pos (by decide +kernel)]; kernel_rfl) | (rw [if_neg (by decide +kernel)]; exact ⟨rfl, rfl⟩))
    (fun os started H enc _ => inflateMore_lifted os started H enc)


theorem inflateMore_proved : Rows.InflateMoreCardSaid :=
  Claim7.holds_tied_plain_at .later [] [.handle] true (true, "12487687b0f2a4e326227b334f4ab789487ca98c6e08befe4bc67b2096b1f006") true
    inflateMore_over (fun _ h => by cases h) (by kernel_rfl) (fun _ h => by cases h) inflateMore_row_tie rfl ⟨rfl, rfl⟩ (by kernel_rfl) rfl
    (fun f fn hf hfn => by
      obtain rfl : f = 6 := Option.some.inj ((show Tryd.prog.funcNamed "fairlead/fairleadlaw18.InflateMore" = some 6 by kernel_rfl).symm.trans hf) |>.symm
      obtain rfl : fn = Tryd.f6 := (Option.some.inj (Tryd.func6.symm.trans hfn)).symm
      exact ⟨by kernel_rfl, fun j t ht => by
        rw [Tryd.params6] at ht
        exact (match j, ht with
      | 0, ht => by obtain rfl : 22 = t := (by simpa using ht); kernel_rfl
      | 1, ht => by obtain rfl : 22 = t := (by simpa using ht); kernel_rfl
      | j + 2, ht => by simp at ht)⟩)
    (by kernel_rfl)
#print axioms inflateMore_proved
end Go.Proofs.YtgmopcbfgcagaaaDoor
