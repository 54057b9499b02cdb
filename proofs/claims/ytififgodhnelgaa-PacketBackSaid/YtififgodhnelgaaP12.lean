/-
  A packet, whatever stands behind it, is read as it is; options are split as they are; what was split, joined, is those bytes. For every input.
-/
import Derived.Test.YtififgodhnelgaaP11
namespace Go.Proofs.Ytififgodhnelgaa
open Go V Go.ChangeShapes Go.WideShapes Go.ChangeAt Go.RowKit

theorem encodeP_len (p : Pk) : (encodeP p).1.length ≤ 1500 := by
  unfold encodeP
  split
  · simp
  · split
    · simp
    · show (p.head ++ p.data).length ≤ _
      rw [List.length_append]
      show 4 + _ ≤ _
      omega

theorem packetBack_ok (W : World) (p : Pk) (A : Option Addr) (n c : Nat) (hs : Sl W 1 A n (p.data.map vb)) (hl : p.data.length = n) (hnc : n ≤ c) (hc : c ≤ 9223372036854775807)
    (B : Option Addr) (m d : Nat) (cb : List Value) (ob : List Opt) (hb : Sl W 2 B m cb) (hob : Ops W (fun k => k < W.heap.size) cb ob) (_ : m ≤ d) (_ : d ≤ 9223372036854775807) (_ : ∀ o ∈ ob, o.data.length ≤ 9223372036854775807)
    (C : Option Addr) (k e : Nat) (l : List UInt8) (hr : Sl W 1 C k (l.map vb)) (hke : k ≤ e) (_ : e ≤ 9223372036854775807) (_ : ∀ a, C = some a → 0 < k → a.block < W.heap.size) :
    VC Try.prog 5 [.agg #[.int .i64 p.code, .int .i64 p.id, .slice A n c], .slice B m d, .slice C k e] W (fun v w' => v = .bool true ∧ Keep No W w') := by
  have hlb := hob.len hb
  have hlk : l.length = k := by simpa using hr.len
  refine VC.of tt_ok Try.func5 rfl (by decide +kernel) (Nat.le_of_ble_eq_true rfl) ?_; (conv => whnf)
  refine ⟨fun w1 hb1 hk1 => ?_⟩; have hb1_lt := Blk.lt hb1; have hk1_sz := hk1.size; (conv => whnf)
  refine (awake_ok w1).mono ?_
  rintro v w2 ⟨rfl, hk2⟩
  have kp := hk1.trans hk2
  have hb1 := hb1.keepNo hk2
  (conv => whnf)
  refine VLoad.by_ ((hb1).cell 2) ?_; (conv => whnf)
  refine VCmp.mk (fun h1 => ?_) (fun h1 => ?_) <;> (conv => whnf)
  · exact ⟨rfl, kp⟩
  refine (small_ok w2 (hb.keepNo kp) (hob.keepNo kp)).mono ?_
  rintro v w' ⟨rfl, rfl⟩
  by_cases hsb : smallO ob
  case neg =>
    rw [decide_eq_false hsb]
    (conv => whnf)
    exact ⟨rfl, kp⟩
  rw [decide_eq_true hsb]
  have hm60 := hsb.1
  (conv => whnf)
  refine VCmp.mk (fun h2 => ?_) (fun h2 => ?_) <;> (conv => whnf)
  · exact ⟨rfl, kp⟩
  refine VLoads.blk hb1 rfl ?_
  (conv => whnf)
  refine (encode_ok (p := p) w2 (hs.keepNo kp) (by omega)).mono ?_
  rintro v w3 ⟨⟨A3, c3, rfl, ho3⟩, hk3⟩
  have kp := kp.keepNo hk3; have hb1 := hb1.keepNo hk3
  (conv => whnf)
  have hel := encodeP_len p
  -- the third sentence
  have third : ∀ (w : World), Keep No W w → VC Try.prog 19 [.slice C k e] w (fun v w' => OpsN w' v (splitP l) ∧ Keep No w w') := fun w kp => Split_ok w (hr.keepNo kp) (by omega) hke
  refine VCmp.mk (fun h3 => ?_) (fun h3 => ?_) <;> (conv => whnf)
  · refine (copy_ok w3 (Sl.ofOwn ho3) (by omega)).mono ?_
    rintro v w4 ⟨A4, c4, rfl, ho4, hk4⟩
    (conv => whnf)
    refine app8 (w0 := w3) hk4 ho4 ((hr.keepNo kp).keepNo hk4) (by omega) ?_
    intro A5 c5 w5 ho5 hk5 _ _
    have kp := kp.keepNo hk5; have hb1 := hb1.keepNo hk5
    (conv => whnf)
    refine (decode_ok w5 (Sl.ofOwn ho5) (by omega) ho5.le).mono ?_
    rintro v w6 ⟨x, rfl, hx, hk6⟩
    rw [decode_encode p l h3] at *
    have hx0 := hx
    obtain ⟨A6, n6, c6, rfl, _⟩ := hx0
    have kp := kp.keepNo hk6; have hb1 := hb1.keepNo hk6
    (conv => whnf)
    refine ⟨fun w7 hb7 hk7 => ?_⟩; have hb7_lt := Blk.lt hb7; have hk7_sz := hk7.size; (conv => whnf); (refine VReq.mk ⟨rfl, (fun u hu => List.all_eq_true.mp (show List.all _ (fun u => u.oneCell') = true by rfl) u hu)⟩ ?_; (conv => whnf)); refine VStore.all hb7 rfl ?_; intro w8 hb8 hk8 hk8_sz; have hk8 := Keep.fresh_ hk7 hk8 (Nat.le_refl _); (conv => whnf)
    have kp := kp.keepNo hk8; have hb1 := hb1.keepNo hk8; have hx := hx.keepNo hk8
    refine VCmp.mk (fun h => absurd rfl h) (fun _ => ?_)
    (conv => whnf)
    refine VLoads.blk hb1 rfl ?_
    (conv => whnf)
    refine VLoads.blk hb8 rfl ?_
    (conv => whnf)
    refine (samePacket_ok w8 (p := p) (q := p) (b1 := 0) ⟨A, n, c, rfl, hs.keepNo kp, hnc, fun a ha => Nat.zero_le _⟩ hx (by omega)).mono ?_
    rintro v w9 ⟨rfl, hk9⟩
    rw [decide_eq_true rfl]
    have kp := kp.keepNo hk9
    (conv => whnf)
    refine (options_ok w9 (hb.keepNo kp) (hob.keepNo kp) (by omega)).mono ?_
    rintro v y1 ⟨⟨A10, c10, rfl, ho10⟩, hk10⟩
    have kp := kp.keepNo hk10
    (conv => whnf)
    refine VCmp.mk (fun h10 => ?_) (fun h10 => ?_) <;> (conv => whnf)
    · obtain ⟨g1, g2, g3⟩ := optsP_zero h10
      have hol := optsP_len ob
      have hq : splitP (optsP ob).1 = (ob, 0) := by rw [g3]; exact splitP_enc ob g1 g2
      refine (Split_ok y1 (Sl.ofOwn ho10) (by omega) ho10.le).mono ?_
      rintro v y2 ⟨⟨A11, n11, c11, ce11, rfl, hs11, hp11, _⟩, hk11⟩
      rw [hq] at *
      have kp := kp.keepNo hk11
      (conv => whnf)
      refine VCmp.mk (fun h => absurd rfl h) (fun _ => ?_)
      (conv => whnf)
      have hl11 : ob.length = n11 := hp11.len hs11
      refine (rSame_ok y2 hs11 hp11 (hb.keepNo kp) (hob.keepNo kp) (by omega) (fun o ho => by have := hsb.2 o ho; omega)).mono ?_
      rintro v y3 ⟨rfl, hk12⟩
      rw [decide_eq_true rfl]
      have kp := kp.keepNo hk12
      (conv => whnf)
      refine (third y3 kp).mono ?_
      rintro v x1 ⟨⟨A20, n20, c20, ce20, rfl, hs20, hp20, _⟩, hk20⟩
      have kp := kp.keepNo hk20
      (conv => whnf)
      refine VCmp.mk (fun h20 => ?_) (fun h20 => ?_) <;> (conv => whnf)
      · have hl20 := hp20.len hs20
        have hsl := splitP_len l
        obtain ⟨r1, r2, r3⟩ := split_back l.length l [] (splitP l).1 (Nat.le_refl _) (by simp) (by simp) (by rw [← h20]; rfl)
        have hq : optsP (splitP l).1 = (l, 0) := by
          unfold optsP
          rw [if_neg (by omega), if_pos r2, r3]
          simp [encOs]
        refine (options_ok x1 hs20 hp20 (by omega)).mono ?_
        rintro v x2 ⟨⟨A21, c21, rfl, ho21⟩, hk21⟩
        rw [hq] at *
        have kp := kp.keepNo hk21
        (conv => whnf)
        refine VCmp.mk (fun _ => ?_) (fun h => absurd rfl h); (conv => whnf)
        refine (same_ok x2 (Sl.ofOwn ho21) (hr.keepNo kp) (by show l.length ≤ _; omega)).mono ?_
        rintro v x3 ⟨rfl, hk22⟩
        rw [decide_eq_true rfl]
        (conv => whnf)
        exact ⟨rfl, kp.trans hk22⟩
      · exact ⟨rfl, kp⟩
    · skip
      refine (third y1 kp).mono ?_
      rintro v x1 ⟨⟨A20, n20, c20, ce20, rfl, hs20, hp20, _⟩, hk20⟩
      have kp := kp.keepNo hk20
      (conv => whnf)
      refine VCmp.mk (fun h20 => ?_) (fun h20 => ?_) <;> (conv => whnf)
      · have hl20 := hp20.len hs20
        have hsl := splitP_len l
        obtain ⟨r1, r2, r3⟩ := split_back l.length l [] (splitP l).1 (Nat.le_refl _) (by simp) (by simp) (by rw [← h20]; rfl)
        have hq : optsP (splitP l).1 = (l, 0) := by
          unfold optsP
          rw [if_neg (by omega), if_pos r2, r3]
          simp [encOs]
        refine (options_ok x1 hs20 hp20 (by omega)).mono ?_
        rintro v x2 ⟨⟨A21, c21, rfl, ho21⟩, hk21⟩
        rw [hq] at *
        have kp := kp.keepNo hk21
        (conv => whnf)
        refine VCmp.mk (fun _ => ?_) (fun h => absurd rfl h); (conv => whnf)
        refine (same_ok x2 (Sl.ofOwn ho21) (hr.keepNo kp) (by show l.length ≤ _; omega)).mono ?_
        rintro v x3 ⟨rfl, hk22⟩
        rw [decide_eq_true rfl]
        (conv => whnf)
        exact ⟨rfl, kp.trans hk22⟩
      · exact ⟨rfl, kp⟩
  · skip
    refine (options_ok w3 (hb.keepNo kp) (hob.keepNo kp) (by omega)).mono ?_
    rintro v y1 ⟨⟨A10, c10, rfl, ho10⟩, hk10⟩
    have kp := kp.keepNo hk10
    (conv => whnf)
    refine VCmp.mk (fun h10 => ?_) (fun h10 => ?_) <;> (conv => whnf)
    · obtain ⟨g1, g2, g3⟩ := optsP_zero h10
      have hol := optsP_len ob
      have hq : splitP (optsP ob).1 = (ob, 0) := by rw [g3]; exact splitP_enc ob g1 g2
      refine (Split_ok y1 (Sl.ofOwn ho10) (by omega) ho10.le).mono ?_
      rintro v y2 ⟨⟨A11, n11, c11, ce11, rfl, hs11, hp11, _⟩, hk11⟩
      rw [hq] at *
      have kp := kp.keepNo hk11
      (conv => whnf)
      refine VCmp.mk (fun h => absurd rfl h) (fun _ => ?_)
      (conv => whnf)
      have hl11 : ob.length = n11 := hp11.len hs11
      refine (rSame_ok y2 hs11 hp11 (hb.keepNo kp) (hob.keepNo kp) (by omega) (fun o ho => by have := hsb.2 o ho; omega)).mono ?_
      rintro v y3 ⟨rfl, hk12⟩
      rw [decide_eq_true rfl]
      have kp := kp.keepNo hk12
      (conv => whnf)
      refine (third y3 kp).mono ?_
      rintro v x1 ⟨⟨A20, n20, c20, ce20, rfl, hs20, hp20, _⟩, hk20⟩
      have kp := kp.keepNo hk20
      (conv => whnf)
      refine VCmp.mk (fun h20 => ?_) (fun h20 => ?_) <;> (conv => whnf)
      · have hl20 := hp20.len hs20
        have hsl := splitP_len l
        obtain ⟨r1, r2, r3⟩ := split_back l.length l [] (splitP l).1 (Nat.le_refl _) (by simp) (by simp) (by rw [← h20]; rfl)
        have hq : optsP (splitP l).1 = (l, 0) := by
          unfold optsP
          rw [if_neg (by omega), if_pos r2, r3]
          simp [encOs]
        refine (options_ok x1 hs20 hp20 (by omega)).mono ?_
        rintro v x2 ⟨⟨A21, c21, rfl, ho21⟩, hk21⟩
        rw [hq] at *
        have kp := kp.keepNo hk21
        (conv => whnf)
        refine VCmp.mk (fun _ => ?_) (fun h => absurd rfl h); (conv => whnf)
        refine (same_ok x2 (Sl.ofOwn ho21) (hr.keepNo kp) (by show l.length ≤ _; omega)).mono ?_
        rintro v x3 ⟨rfl, hk22⟩
        rw [decide_eq_true rfl]
        (conv => whnf)
        exact ⟨rfl, kp.trans hk22⟩
      · exact ⟨rfl, kp⟩
    · skip
      refine (third y1 kp).mono ?_
      rintro v x1 ⟨⟨A20, n20, c20, ce20, rfl, hs20, hp20, _⟩, hk20⟩
      have kp := kp.keepNo hk20
      (conv => whnf)
      refine VCmp.mk (fun h20 => ?_) (fun h20 => ?_) <;> (conv => whnf)
      · have hl20 := hp20.len hs20
        have hsl := splitP_len l
        obtain ⟨r1, r2, r3⟩ := split_back l.length l [] (splitP l).1 (Nat.le_refl _) (by simp) (by simp) (by rw [← h20]; rfl)
        have hq : optsP (splitP l).1 = (l, 0) := by
          unfold optsP
          rw [if_neg (by omega), if_pos r2, r3]
          simp [encOs]
        refine (options_ok x1 hs20 hp20 (by omega)).mono ?_
        rintro v x2 ⟨⟨A21, c21, rfl, ho21⟩, hk21⟩
        rw [hq] at *
        have kp := kp.keepNo hk21
        (conv => whnf)
        refine VCmp.mk (fun _ => ?_) (fun h => absurd rfl h); (conv => whnf)
        refine (same_ok x2 (Sl.ofOwn ho21) (hr.keepNo kp) (by show l.length ≤ _; omega)).mono ?_
        rintro v x3 ⟨rfl, hk22⟩
        rw [decide_eq_true rfl]
        (conv => whnf)
        exact ⟨rfl, kp.trans hk22⟩
      · exact ⟨rfl, kp⟩

/-! ### The statement -/
theorem packetBack_own : ownKnob Try.prog.godebug = none := by kernel_rfl
theorem packetBack_laid : laidOutB Try.prog = true := by kernel_rfl
set_option maxRecDepth 100000 in
theorem packetBack_lifted (os : Os) (started : os.Started) (H : Type) (enc : TypeId × Value → H) :
    ReturnsInHanded {} Try.checked os 5 .any (Rows.packetBackSpec.pre6 enc Try.prog Try.f5 Rows.packetBackRow.domain false) (Rows.packetBackSpec.post enc Try.prog Try.f5 false true false false) := by
  refine returnsInHanded_of_change (C := Try.checked) packetBack_own started (by kernel_rfl) Try.func5
    (ChangeSpec.witness6 (enc := enc) (C := Try.checked) false ⟨#[], #[.agg #[.int .i64 0, .int .i64 0, .slice none 0 0], .slice none 0 0, .slice none 0 0], []⟩ 8 (by kernel_rfl) (by kernel_rfl) (by kernel_rfl) (by kernel_rfl)) ?_
  intro W base args ds gs before hval0 hW hcnd _
  have hval : ∀ (j : Nat) t v, Try.f5.params[j]? = some t → args[j]? = some v → Value.okWide Try.prog W .any base t v := hval0
  have hW' := hW
  obtain ⟨p, q, hA0, hV, rfl, hfz, hnd⟩ := hW
  have hA : DataW.TrodAll enc Try.prog W 0 (fun _ => true) true Try.f5.params.toList args.toList ds p := hA0
  rw [Try.params5] at hA hval
  obtain ⟨v0, vs0, d0, ds0, p0, q0, hargs, rfl, rfl, h0, r0⟩ := trodAll_cons hA
  obtain ⟨v1, vs1, d1, ds1, p1, q1, rfl, rfl, rfl, h1, r1⟩ := trodAll_cons r0
  obtain ⟨v2, vs2, d2, ds2, p2, q2, rfl, rfl, rfl, h2, r2⟩ := trodAll_cons r1
  obtain ⟨rfl, rfl, rfl⟩ := trodAll_nil r2
  obtain rfl : args = #[v0, v1, v2] := by cases args; simp_all
  obtain ⟨rfl, rfl⟩ := trodVars_none hV
  have k0 := h0
  have lt0 : ∀ x ∈ p0, x.block < W.heap.size := by obtain ⟨m, hm⟩ := k0; exact DataW.trod_lt m _ _ _ hm
  obtain ⟨cs0, rfl, _⟩ := okWide_struct Try.underlying24 (hval 0 24 v0 rfl rfl)
  obtain ⟨fuel0, hf0⟩ := h0
  obtain ⟨pk0, A0, n0, c0, e0, s0, ln0, nc0, cc0⟩ := open_packet hf0
  subst e0
  have k1 := h1
  have lt1 : ∀ x ∈ p1, x.block < W.heap.size := by obtain ⟨m, hm⟩ := k1; exact DataW.trod_lt m _ _ _ hm
  obtain ⟨aa1, la1, ca1, rfl⟩ := okWide_slice Try.underlying38 (hval 1 38 v1 rfl rfl)
  obtain ⟨fuel1, hf1⟩ := h1
  obtain ⟨A1, n1, c1, va1, l1, e1, s1, el1, nc1, cc1, fl1⟩ := open_opts hf1
  cases e1
  have k2 := h2
  have lt2 : ∀ x ∈ p2, x.block < W.heap.size := by obtain ⟨m, hm⟩ := k2; exact DataW.trod_lt m _ _ _ hm
  obtain ⟨aa2, la2, ca2, rfl⟩ := okWide_slice Try.underlying22 (hval 2 22 v2 rfl rfl)
  obtain ⟨fuel2, hf2⟩ := h2
  obtain ⟨A2, n2, c2, l2, e2, s2, ln2, nc2, cc2, b2⟩ := open_bytes Try.underlying22 Try.underlying5 (by kernel_rfl) hf2
  cases e2
  clear hA0 hval0
  refine (VC.law (packetBack_ok W pk0 A0 n0 c0 s0 ln0 nc0 cc0 aa1 la1 ca1 va1 l1 s1 el1 nc1 cc1 fl1 aa2 la2 ca2 l2 s2 nc2 cc2 b2)).mono fun e W' ⟨he, bel⟩ => ?_
  subst he
  exact ⟨_, rfl, _, _, _, [], _, [], hW', trodAll_mk1 (shut_bool Try.underlying4 _), (trodAll_cons_mk (Below.trod packetBack_laid (by kernel_rfl) (of_decide_eq_true (by kernel_rfl)) k0 bel lt0) (trodAll_cons_mk (Below.trod packetBack_laid (by kernel_rfl) (of_decide_eq_true (by kernel_rfl)) k1 bel lt1) (trodAll_cons_mk (Below.trod packetBack_laid (by kernel_rfl) (of_decide_eq_true (by kernel_rfl)) k2 bel lt2) trodAll_mk0))), rfl, bel.frame _, fun h => by cases h⟩

theorem packetBack_over : Rows.packetBackRow.holds Try.pinned (OpenSpec.ofChange Rows.packetBackSpec) :=
  OpenClaim.holds_of_wide 5 Try.f5 rfl rfl rfl rfl rfl rfl rfl ⟨rfl, rfl, rfl, rfl, rfl⟩ rfl rfl rfl rfl rfl (by kernel_rfl) Try.func5 (by kernel_rfl)
    (of_decide_eq_true (by kernel_rfl)) (by unfold Func.isWrapper; first | (rw [if_pos (by decide +kernel)]; kernel_rfl) | (rw [if_neg (by decide +kernel)]; exact ⟨rfl, rfl⟩))
    (fun os started H enc _ => packetBack_lifted os started H enc)

theorem packetBack_proved : Rows.PacketBackSaid := packetBack_over
#print axioms packetBack_proved
end Go.Proofs.Ytififgodhnelgaa
