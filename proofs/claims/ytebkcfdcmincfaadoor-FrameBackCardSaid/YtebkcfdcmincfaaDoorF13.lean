/-
  What went on the line with a form is read with that form, or with one that lets more out; one bit turned between the flags is found. For every input.
-/
import Derived.Test.YtebkcfdcmincfaaDoorF12
namespace Go.Proofs.YtebkcfdcmincfaaDoor
open Go V Go.ChangeShapes Go.WideShapes Go.ChangeAt Go.RowKit

theorem VRes.bit8 {s : Nat} {a l : Int} {K : Value → Prop} (ha : a = 1) (hl : l = (s : Int)) (hs : s < 8) (hK : K (vb (UInt8.ofNat (2 ^ s)))) :
    VRes (.int .u8 (IntKind.wrap .u8 (a * 2 ^ (min l.toNat (IntKind.bits .u8))))) K := by
  subst ha; subst hl
  refine VRes.to ?_ hK
  match s, hs with
  | 0, _ | 1, _ | 2, _ | 3, _ | 4, _ | 5, _ | 6, _ | 7, _ => rfl

theorem readN (w : World) {A : Option Addr} {n c : Nat} {l : List UInt8} (f : Fo) (q : Int × List UInt8 × Int) (N : Nat) (hq : readW l f = q) (hN : q.2.1.length = N) (hs : Sl w 1 A n (l.map vb)) (hn : n ≤ 1000000) (hnc : n ≤ c) (hg : EtOk w) :
    VC Tryd.prog 19 [.slice A n c, .agg #[.bool f.acfc, .bool f.pfc]] w (fun v w' => ∃ A' c', v = .tuple #[.int .i64 q.1, .slice A' N c', .int .i64 q.2.2] ∧ Own w' w.heap.size T8 1 A' N c' (q.2.1.map vb) ∧ Keep No w w') := by
  refine (fRead_ok w f hs hn hnc hg).mono ?_
  rintro v w' ⟨⟨A', c', rfl, ho⟩, hk⟩
  rw [hq] at *
  subst hN
  exact ⟨A', c', rfl, ho, hk⟩

theorem frameBack_ok (W : World) (hg : EtOk W) (p : Int) (_ : -9223372036854775808 ≤ p ∧ p ≤ 9223372036854775807) (A : Option Addr) (n c : Nat) (l : List UInt8) (hs : Sl W 1 A n (l.map vb)) (hnc : n ≤ c) (_ : c ≤ 9223372036854775807) (_ : ∀ a, A = some a → 0 < n → a.block < W.heap.size) (f : Fo) (m : BitVec 32) :
    VC Tryd.prog 8 [.int .i64 p, .slice A n c, .agg #[.bool f.acfc, .bool f.pfc, vw m]] W (fun v w' => v = .bool true ∧ Keep No W w') := by
  have hl : l.length = n := by simpa using hs.len
  refine VC.of tt_ok Tryd.func8 rfl (by decide +kernel) (Nat.le_of_ble_eq_true rfl) ?_; (conv => whnf)
  refine ⟨fun w1 hb kp => ?_⟩; have hb_lt := Blk.lt hb; have kp_sz := kp.size; (conv => whnf)
  refine (awake_ok w1 (hg.keepNo kp)).mono ?_
  rintro v w2 ⟨rfl, hk2⟩
  have kp := kp.keepNo hk2; have hb := hb.keepNo hk2
  have hk2_sz := hk2.size
  (conv => whnf)
  refine VCmp.mk (fun h => ?_) (fun h => ?_) <;> (conv => whnf)
  · exact ⟨rfl, kp⟩
  refine VLoads.two (hb.cell 0) (hb.cell 1) ?_
  (conv => whnf)
  refine VLoad.by_ ((hb).cell 2) ?_; (conv => whnf)
  obtain ⟨r, hr⟩ : ∃ r, r = wireP p l f m := ⟨_, rfl⟩
  have hwire := wire_ok w2 p (c := c) f m (hs.keepNo kp) (by omega)
  rw [← hr] at hwire
  have hwl := wireP_len p l f m
  rw [← hr] at hwl
  obtain ⟨r1, r2⟩ := r
  refine hwire.mono ?_
  rintro v w3 ⟨⟨A3, c3, rfl, ho3⟩, hk3⟩
  have kp := kp.keepNo hk3; have hb := hb.keepNo hk3
  have hk3_sz := hk3.size
  (conv => whnf)
  refine (new_ok w3 (0#32) 4096 (by omega)).mono ?_
  rintro v w4 (⟨h1, _⟩ | ⟨q, hq, q1, q2, rfl, hdf, hk4⟩)
  · exact absurd h1 (by omega)
  obtain rfl : q = 4096 := by omega
  have ho3_lt := fun a ha => (ho3.base_ (a := a) ha).2
  have kp := kp.keepNo hk4; have hb := hb.keepNo hk4; have ho3 := ho3.keepNo hk4
  have hk4_sz := hk4.size
  have hdlt := hdf.lt w3.heap.size (.inl rfl)
  (conv => whnf)
  cases hm : mayB p with
  | false =>
    have e : wireP p l f m = ([], 1) := by unfold wireP encF; rw [hm]; rfl
    rw [e] at hr
    cases hr
    refine VCmp.mk (fun _ => ?_) (fun h => absurd (by decide) h)
    (conv => whnf)
    refine (may_ok w4 p).mono ?_
    rintro v w' ⟨rfl, rfl⟩
    rw [hm]
    (conv => whnf)
    refine VCmp.mk (fun _ => ?_) (fun h => absurd rfl h); (conv => whnf)
    exact ⟨rfl, kp⟩
  | true =>
  obtain ⟨b, hbd⟩ : ∃ b, b = headP p f ++ l := ⟨_, rfl⟩
  have hhl := headP_len p f
  have hbl : b.length ≤ 1004 := by rw [hbd, List.length_append]; omega
  have hen : encF p l f = (b, 0) := by rw [hbd]; exact encF_ok hm (by omega)
  have hwp : wireP p l f m = (stuffed m (addP b), 0) := by unfold wireP; rw [hen]; rfl
  rw [hwp] at hr
  injection hr with hr1 hr2
  subst hr1
  subst hr2
  refine VCmp.mk (fun h => absurd rfl h) (fun _ => ?_)
  (conv => whnf)
  have hal := addP_len b
  have hane : addP b ≠ [] := fun e => by have := congrArg List.length e; rw [hal] at this; simp at this
  refine (feed_ok w4 (D := 0) hdf ⟨by decide, by decide, by simp, by simp⟩ (Sl.ofOwn ho3) (fun a ha e => by
      have hlt := ho3_lt a ha
      rcases e with e | ⟨_, e, _⟩
      · omega
      · cases e) (fun a ha => (ho3.base_ ha).2) (by omega) (by omega)).mono ?_
  rintro v w5 ⟨A', Ao, no, co, vals, rfl, hst⟩
  have hfd : (Df.feed ⟨0#32, 4096, [], false, false, 0⟩ (stuffed m (addP b))).2 = [addP b] := by
    rw [Df.feed_stuffed m (addP b) _ ⟨rfl, rfl, rfl⟩ (fun c hc => absurd hc (by simp [mapB])) (by show _ ≤ 4096; omega), if_neg hane]
  have hno := hst.no_len
  have hels := hst.els
  rw [hfd] at hno hels
  have hout := hst.out
  obtain rfl : no = 1 := hno
  have hlow : ∀ i, fpt w3.heap.size none i → i = w3.heap.size := fun i e => by
    rcases e with e | ⟨_, e, _⟩
    · exact e
    · cases e
  have kp := kp.toNo hst.keep (fun i e => by have := hlow i e; have := kp.size; omega)
  have hb := hb.keep hst.keep (fun e => by have := hlow _ e; omega)
  obtain ⟨vx, hvx, Ax, cx, rfl, hcx, hsx, _⟩ := hels.2 0 (addP b) rfl
  obtain ⟨bo, oo, hAo, hco⟩ := (Sl.ofOwn hout).at_ (by omega)
  have hcell := hco 0 _ hvx
  have hlN : (addP b).length = b.length + 2 := hal
  (conv => whnf)
  refine VCmp.mk (fun h => absurd rfl h) (fun _ => ?_)
  (conv => whnf)
  have hdf1 : decF b f = (p, l, 0) := by rw [hbd]; exact decF_head hm l (by omega) f f id id
  have hdf2 : decF b ⟨true, true⟩ = (p, l, 0) := by rw [hbd]; exact decF_head hm l (by omega) f ⟨true, true⟩ (fun _ => rfl) (fun _ => rfl)
  have hg5 := hg.keepNo kp
  have hb' := hb
  refine VDraw.by_ tt_ok rfl (.take 0 (.take 1 (.take 2 (.take 3 (.take 4 (.one 5 (.take 6 (.take 7 (.take 8 (.take 9 (.take 10 (.take 11 (.take 12 .done))))))))))))) (by decide +kernel) _ (fun x h1 h2 h3 h4 => Keep.ofHeap h1 h2 h3 h4) (fun wd hd kd => ?_)
  have kp5 := kp
  have kp := kp.keepNo kd; have hb := hb.keepNo kd; have hsx := hsx.keepNo kd
  (conv => whnf)
  refine VIdx.one 0 rfl (by omega) hAo ?_
  (conv => whnf)
  refine VLoad.keep hcell ?_
  (conv => whnf)
  refine VLoads.two (fun x hx => (hb'.keepNo hx).cell 0) (fun x hx => (hb'.keepNo hx).cell 1) ?_
  (conv => whnf)
  refine (readN wd f (p, l, 0) n (by rw [read_add]; exact hdf1) hl hsx (by omega) hcx (hg.keepNo kp)).mono ?_
  rintro v w6 ⟨A6, c6, rfl, ho6, hk6⟩
  have kp := kp.keepNo hk6; have hb := hb.keepNo hk6; have hsx := hsx.keepNo hk6; have kd := kd.keepNo hk6
  (conv => whnf)
  refine VOwe.same kd ?_
  (conv => whnf)
  refine VIdx.one 0 rfl (by omega) hAo ?_
  (conv => whnf)
  refine VLoad.by_ (kd.cell hcell id) ?_
  (conv => whnf)
  refine VFill.by_ rfl ?_; (conv => whnf)
  refine (readN w6 ⟨true, true⟩ (p, l, 0) n (by rw [read_add]; exact hdf2) hl hsx (by omega) hcx (hg.keepNo kp)).mono ?_
  rintro v w7 ⟨A7, c7, rfl, ho7, hk7⟩
  have kp := kp.keepNo hk7; have hb := hb.keepNo hk7; have hsx := hsx.keepNo hk7; have kd := kd.keepNo hk7; have ho6 := ho6.keepNo hk7
  (conv => whnf)
  refine VCmp.mk (fun h => absurd rfl h) (fun _ => ?_)
  (conv => whnf)
  refine VCmp.mk (fun h => absurd rfl h) (fun _ => ?_)
  (conv => whnf)
  refine VCmp.mk (fun h => absurd rfl h) (fun _ => ?_)
  (conv => whnf)
  refine (same_ok w7 (Sl.ofOwn ho7) (hs.keepNo kp) (by omega)).mono ?_
  rintro v w8 ⟨rfl, hk8⟩
  rw [decide_eq_true rfl]
  have kp := kp.keepNo hk8; have hb := hb.keepNo hk8; have hsx := hsx.keepNo hk8; have kd := kd.keepNo hk8; have ho6 := ho6.keepNo hk8
  (conv => whnf)
  refine VCmp.mk (fun _ => ?_) (fun h => absurd rfl h); (conv => whnf)
  refine VCmp.mk (fun h => absurd rfl h) (fun _ => ?_)
  (conv => whnf)
  refine (same_ok w8 (Sl.ofOwn ho6) (hs.keepNo kp) (by omega)).mono ?_
  rintro v w9 ⟨rfl, hk9⟩
  rw [decide_eq_true rfl]
  have kp := kp.keepNo hk9; have hb := hb.keepNo hk9; have hsx := hsx.keepNo hk9; have kd := kd.keepNo hk9
  (conv => whnf)
  refine VLoop.by_ tt_ok (S := Nat) (fun k => [(5, .pointer (some ⟨W.heap.size, 0, none⟩)), (11, .slice Ao 1 co), (18, .int .i64 k)]) (fun k w' => k ≤ (addP b).length * 8 ∧ Keep No w9 w') (fun k => (addP b).length * 8 - k) 0
    ⟨rfl, rfl, rfl, trivial⟩ ⟨by omega, Keep.refl _ _⟩ ?_
  rintro k w' ⟨hk, kk⟩
  have kp := kp.keepNo kk; have hb := hb.keepNo kk; have hsx := hsx.keepNo kk; have kd := kd.keepNo kk
  have kp_sz := kp.size
  have hbw := Blk.lt hb
  have kk_sz := kk.size
  (conv => whnf)
  refine VIdx.one 0 rfl (by omega) hAo ?_
  (conv => whnf)
  refine VLoad.by_ (kd.cell hcell id) ?_
  (conv => whnf)
  refine VRes.i64 (by omega) ?_; (conv => whnf)
  refine VCmp.mk (fun g1 => ?_) (fun g1 => ?_) <;> (conv => whnf)
  rotate_left 1
  · exact ⟨rfl, kp⟩
  refine VCmp.mk (fun g2 => ?_) (fun g2 => ?_) <;> (conv => whnf)
  rotate_left 1
  · exact ⟨rfl, kp⟩
  have hklt : k / 8 < (addP b).length := by omega
  refine VIdx.one 0 rfl (by omega) hAo ?_
  (conv => whnf)
  refine VLoad.by_ (kd.cell hcell id) ?_
  (conv => whnf)
  refine (copy_ok w' hsx (by omega)).mono ?_
  rintro v x1 ⟨A9, c9, rfl, ho9, hx1⟩
  obtain ⟨b9, rfl, hb9⟩ : ∃ g, A9 = some ⟨g, 0, none⟩ ∧ w'.heap.size ≤ g := by
    obtain ⟨_, ⟨_, h0⟩ | ⟨g, cap, cur, hv, hgb, _⟩⟩ := ho9
    · omega
    · injection hv with e1
      exact ⟨g, e1, hgb⟩
  have kp := kp.keepNo hx1; have hb := hb.keepNo hx1; have kk := kk.keepNo hx1
  obtain ⟨x, hx⟩ : ∃ x, (addP b)[k / 8]? = some x := ⟨_, List.getElem?_eq_getElem hklt⟩
  have hxc : x1.cell? ⟨b9, 0 + k / 8, none⟩ = some (vb x) := by
    obtain ⟨bb, oo, e, hcc⟩ := (Sl.ofOwn ho9).at_ (by omega)
    cases e
    exact hcc _ _ (by rw [List.getElem?_map, hx]; rfl)
  (conv => whnf)
  refine VReq.mk (by omega) ?_
  refine VRes.to (congrArg (Value.int .i64) (show IntKind.wrap .i64 ((k : Int).tdiv 8) = ((k / 8 : Nat) : Int) from wrap_i64 (by have : ((k : Int)).tdiv 8 = ((k / 8 : Nat) : Int) := rfl; rw [this]; omega))) ?_
  (conv => whnf)
  refine VIdx.one (k / 8) rfl (by omega) rfl ?_
  (conv => whnf)
  refine VLoad.by_ hxc ?_
  (conv => whnf)
  refine VReq.mk (by omega) ?_
  refine VRes.to (congrArg (Value.int .i64) (show ((k : Int)).tmod 8 = ((k % 8 : Nat) : Int) from rfl)) ?_
  (conv => whnf)
  refine VRes.u64 (by omega) ?_
  (conv => whnf)
  refine VReq.mk (by omega) ?_
  refine VRes.bit8 (s := k % 8) rfl rfl (by omega) ?_
  (conv => whnf)
  refine VRes.xor8 (x := x) (y := UInt8.ofNat (2 ^ (k % 8))) rfl ?_
  (conv => whnf)
  refine VIdx.one (k / 8) rfl (by omega) rfl ?_
  (conv => whnf)
  refine Own.set ho9 hklt (fun x2 ho10 hx2 hx2s => ?_)
  have hb := hb.keep hx2 (fun e => by have e : W.heap.size = b9 := e; have hW := Blk.lt hb; have := kk.size; omega)
  have kp := kp.toNo hx2 (fun i e => by have e : i = b9 := e; omega)
  have kk2 := kk.toNo hx2 (fun i e => by have e : i = b9 := e; omega)
  (conv => whnf)
  refine VLoads.two (hb.cell 0) (hb.cell 1) ?_
  (conv => whnf)
  have hset : ((addP b).map vb).set (k / 8) (vb (x ^^^ UInt8.ofNat (2 ^ (k % 8)))) = ((addP b).set (k / 8) (x ^^^ UInt8.ofNat (2 ^ (k % 8)))).map vb := by rw [List.map_set]
  have ho11 : Own x2 w'.heap.size T8 1 (some ⟨b9, 0, none⟩) (addP b).length c9 (((addP b).set (k / 8) (x ^^^ UInt8.ofNat (2 ^ (k % 8)))).map vb) := by rw [← hset]; exact ho10
  refine (readN x2 f (0, [], 5) 0 (read_set f hx (xor_bit_ne x _ (by omega))) rfl (Sl.ofOwn ho11) (by omega) ho11.le (hg.keepNo kp)).mono ?_
  rintro v x3 ⟨A12, c12, rfl, ho12, hx3⟩
  (conv => whnf)
  refine VCmp.mk (fun h => absurd rfl h) (fun _ => ?_)
  (conv => whnf)
  refine VRes.i64 (by omega) ?_; (conv => whnf)
  exact ⟨k + 1, ⟨rfl, rfl, rfl, trivial⟩, ⟨by omega, kk2.trans hx3⟩, by omega⟩
/-! ### The statement -/
theorem frameBack_own : ownKnob Tryd.prog.godebug = none := by kernel_rfl
theorem frameBack_laid : laidOutB Tryd.prog = true := by kernel_rfl
set_option maxRecDepth 100000 in
theorem frameBack_lifted (os : Os) (started : os.Started) (H : Type) (enc : TypeId × Value → H) :
    ReturnsInHanded {} Tryd.checked os 8 .any (fun w args => (Rows.frameBackSpec.pre enc Tryd.prog Tryd.f8 Rows.frameBackRow.domain false w args ∧ laidMetH Tryd.prog laidL w) ∧ sizedMet enc Tryd.prog Tryd.f8 (OpenSpec.ofChange Rows.frameBackSpec) false w args) (Rows.frameBackSpec.post enc Tryd.prog Tryd.f8 false true false false) := by
  refine returnsInHanded_of_change_and (C := Tryd.checked) (X := fun w _ => laidMetH Tryd.prog laidL w) (fun _ _ _ hh h => h.of_heap hh) frameBack_own started (by kernel_rfl) Tryd.func8
    (ChangeSpec.witness_at (enc := enc) (C := Tryd.checked) (os := os) (X := fun w _ => laidMetH Tryd.prog laidL w) false (laidWorld os) #[.int .i64 0, .slice none 0 0, .agg #[.bool false, .bool false, .int .u32 0]] 8 rfl (by kernel_rfl) (by kernel_rfl) (by kernel_rfl) (by kernel_rfl) (by kernel_rfl) (laidWorld_met os _)) ?_
  intro W base args ds gs before hval0 hW hcnd _ hL _
  have hg := handle_of_laid hL
  have hval : ∀ (j : Nat) t v, Tryd.f8.params[j]? = some t → args[j]? = some v → Value.okWide Tryd.prog W .any base t v := hval0
  have hW' := hW
  obtain ⟨p, q, hA0, hV, rfl, hfz, hnd⟩ := hW
  have hA : DataW.TrodAll enc Tryd.prog W 0 (fun _ => true) true Tryd.f8.params.toList args.toList ds p := hA0
  rw [Tryd.params8] at hA hval
  obtain ⟨v0, vs0, d0, ds0, p0, q0, hargs, rfl, rfl, h0, r0⟩ := trodAll_cons hA
  obtain ⟨v1, vs1, d1, ds1, p1, q1, rfl, rfl, rfl, h1, r1⟩ := trodAll_cons r0
  obtain ⟨v2, vs2, d2, ds2, p2, q2, rfl, rfl, rfl, h2, r2⟩ := trodAll_cons r1
  obtain ⟨rfl, rfl, rfl⟩ := trodAll_nil r2
  obtain rfl : args = #[v0, v1, v2] := by cases args; simp_all
  obtain ⟨rfl, rfl⟩ := trodVars_none hV
  have k0 := h0
  have lt0 : ∀ x ∈ p0, x.block < W.heap.size := by obtain ⟨m, hm⟩ := k0; exact DataW.trod_lt m _ _ _ hm
  obtain ⟨a0, rfl, rfl, rfl, w0⟩ := open_int Tryd.underlying3 (hval 0 3 v0 rfl rfl) h0
  have k1 := h1
  have lt1 : ∀ x ∈ p1, x.block < W.heap.size := by obtain ⟨m, hm⟩ := k1; exact DataW.trod_lt m _ _ _ hm
  obtain ⟨aa1, la1, ca1, rfl⟩ := okWide_slice Tryd.underlying25 (hval 1 25 v1 rfl rfl)
  obtain ⟨fuel1, hf1⟩ := h1
  obtain ⟨A1, n1, c1, l1, e1, s1, ln1, nc1, cc1, b1⟩ := open_bytes Tryd.underlying25 Tryd.underlying5 (by kernel_rfl) hf1
  cases e1
  have k2 := h2
  have lt2 : ∀ x ∈ p2, x.block < W.heap.size := by obtain ⟨m, hm⟩ := k2; exact DataW.trod_lt m _ _ _ hm
  obtain ⟨cs2, rfl, _⟩ := okWide_struct Tryd.underlying44 (hval 2 44 v2 rfl rfl)
  obtain ⟨fuel2, hf2⟩ := h2
  obtain ⟨fo2, m2, e2⟩ := open_wired hf2
  subst e2
  clear hA0 hval0
  refine (VC.law (frameBack_ok W hg a0 (int_of w0) aa1 la1 ca1 l1 s1 nc1 cc1 b1 fo2 m2)).mono fun e W' ⟨he, bel⟩ => ?_
  subst he
  exact ⟨_, rfl, _, _, _, [], _, [], hW', trodAll_mk1 (shut_bool Tryd.underlying4 _), (trodAll_cons_mk (Below.trod frameBack_laid (by kernel_rfl) (of_decide_eq_true (by kernel_rfl)) k0 bel lt0) (trodAll_cons_mk (Below.trod frameBack_laid (by kernel_rfl) (of_decide_eq_true (by kernel_rfl)) k1 bel lt1) (trodAll_cons_mk (Below.trod frameBack_laid (by kernel_rfl) (of_decide_eq_true (by kernel_rfl)) k2 bel lt2) trodAll_mk0))), rfl, bel.frame _, fun h => by cases h⟩

theorem frameBack_over : Rows.frameBackRow.holds Tryd.pinned (OpenSpec.ofChange Rows.frameBackSpec) :=
  OpenClaim.holds_of_wide 8 Tryd.f8 rfl rfl rfl rfl rfl rfl rfl ⟨rfl, rfl, rfl, rfl, rfl⟩ rfl rfl rfl rfl rfl (by kernel_rfl) Tryd.func8 (by kernel_rfl)
    (of_decide_eq_true (by kernel_rfl)) (by unfold Func.isWrapper; first | (rw [if_pos (by decide +kernel)]; kernel_rfl) | (rw [if_neg (by decide +kernel)]; exact ⟨rfl, rfl⟩))
    (fun os started H enc _ => frameBack_lifted os started H enc)


theorem frameBack_proved : Rows.FrameBackCardSaid :=
  Claim7.holds_tied_plain_at .later [] [.handle] true (true, "febc034ccf11541b4f349216a09937fe34c75095d19bc848434b020eb5eb71bc") true
    frameBack_over (fun _ h => by cases h) (by kernel_rfl) (fun _ h => by cases h) frameBack_row_tie rfl ⟨rfl, rfl⟩ (by kernel_rfl) rfl
    (fun f fn hf hfn => by
      obtain rfl : f = 8 := Option.some.inj ((show Tryd.prog.funcNamed "fairlead/fairleadlaw4.FrameBack" = some 8 by kernel_rfl).symm.trans hf) |>.symm
      obtain rfl : fn = Tryd.f8 := (Option.some.inj (Tryd.func8.symm.trans hfn)).symm
      exact ⟨by kernel_rfl, fun j t ht => by
        rw [Tryd.params8] at ht
        exact (match j, ht with
      | 0, ht => by obtain rfl : 3 = t := (by simpa using ht); kernel_rfl
      | 1, ht => by obtain rfl : 25 = t := (by simpa using ht); kernel_rfl
      | 2, ht => by obtain rfl : 44 = t := (by simpa using ht); kernel_rfl
      | j + 3, ht => by simp at ht)⟩)
    (by kernel_rfl)
#print axioms frameBack_proved
end Go.Proofs.YtebkcfdcmincfaaDoor
