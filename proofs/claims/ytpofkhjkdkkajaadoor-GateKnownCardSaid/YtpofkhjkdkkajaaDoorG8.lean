/-
  Gate: chapter 26's example. A closed statement.
-/
import Derived.Test.YtpofkhjkdkkajaaDoorG5
import Derived.Test.YtpofkhjkdkkajaaDoorG6
import Derived.Test.YtpofkhjkdkkajaaDoorVl
namespace Go.Proofs.YtpofkhjkdkkajaaDoor
open Go V Go.ChangeShapes Go.WideShapes Go.ChangeAt Go.RowKit
open Pk (decodeP splitP PkV OpsN Ops)

/-- A row of what was seen that is the caller's own, and a number. -/
def LookO (w : World) (base : Nat) (v : Value) (r : List Sn × Int) : Prop := ∃ A n c cells, v = .tuple #[.slice A n c, .int .i64 r.2] ∧ Own w base TG 5 A n c cells ∧ SnsT w cells r.1

theorem LookO_ok (w : World) {A : Option Addr} {n c : Nat} {l : List UInt8} (hg : EtOk w) (hs : Sl w 1 A n (l.map vb)) (hn : n ≤ 100000) :
    VC Tryd.prog 9 [.slice A n c] w (fun v w' => LookO w' w.heap.size v (lookP l) ∧ Keep No w w') := by
  have hl : l.length = n := by simpa using hs.len
  refine VC.of tt_ok Tryd.func9 rfl (by decide +kernel) (Nat.le_of_ble_eq_true rfl) ?_; (conv => whnf)
  refine (new_ok w (0#32) 4096 (by omega)).mono ?_
  rintro v w1 (⟨h1, _⟩ | ⟨q, hq, q1, q2, rfl, hdf, kp⟩)
  · exact absurd h1 (by omega)
  obtain rfl : q = 4096 := by omega
  have hdlt := hdf.lt w.heap.size (.inl rfl)
  (conv => whnf)
  refine VCmp.mk (fun h => absurd rfl h) (fun _ => ?_)
  (conv => whnf)
  refine (feed_okE w1 (D := 0) hdf ⟨by decide, by decide, by simp, by simp⟩ (hs.keepNo kp) (fun a ha h0 e => by
      have hlt := hs.lt (by omega) ha
      rcases e with e | ⟨_, e, _⟩
      · omega
      · cases e) (fun a ha h0 => Nat.lt_of_lt_of_le (hs.lt (by omega) ha) kp.size) (by omega) (by omega)).mono ?_
  rintro v w2 ⟨A', Ao, no, co, vals, rfl, hst⟩
  have hno := hst.no_len
  have hels := hst.els
  have hlow : ∀ i, fpt w.heap.size none i → i = w.heap.size := fun i e => by
    rcases e with e | ⟨_, e, _⟩
    · exact e
    · cases e
  have kp := kp.toNo hst.keep (fun i e => by have := hlow i e; omega)
  have hfl := Df.feed_len df0 l
  have hfe := Df.feed_each (s := df0) (D := 0) ⟨by decide, by decide, by simp [df0], by simp [df0]⟩ l
  have hfd := (Df.feed_ok' (s := df0) (D := 0) ⟨by decide, by decide, by simp [df0], by simp [df0]⟩ l).d
  obtain ⟨fs, hfs⟩ : ∃ fs, fs = (df0.feed l).2 := ⟨_, rfl⟩
  have hlk : lookP l = (snsOf fs, ((badOf fs + (df0.feed l).1.dropped : Nat) : Int)) := by rw [hfs]; rfl
  change no = (df0.feed l).2.length at hno
  change Els w2 _ vals (df0.feed l).2 at hels
  rw [← hfs] at hels hno hfl hfe
  have hdf2 := hst.df
  change DfA w2 w.heap.size A' (df0.feed l).1 at hdf2
  have hsv := Sl.ofOwn hst.out
  (conv => whnf)
  refine VLoop.by_ tt_ok (S := Nat × Option Addr × Nat × List Value) (fun | (k, Al, cl, _) => [(4, .pointer (some ⟨w.heap.size, 0, none⟩)), (6, .slice Al (snsOf (fs.take k)).length cl), (7, .int .i64 (badOf (fs.take k) : Nat)), (21, .slice Ao no co), (22, .int .i64 no), (23, .int .i64 k)])
    (fun | (k, Al, cl, cells) => fun w' => k ≤ no ∧ Own w' w2.heap.size TG 5 Al (snsOf (fs.take k)).length cl cells ∧ SnsT w' cells (snsOf (fs.take k)) ∧ Keep No w2 w') (fun | (k, _) => no - k)
    (0, none, 0, []) ⟨rfl, rfl, rfl, rfl, rfl, rfl, trivial⟩ ⟨by omega, Own.nil _ _ _ _, Sns.nil _ _, Keep.refl _ _⟩ ?_
  rintro ⟨k, Al, cl, cells⟩ w' ⟨hk, hown, hsn, kk⟩
  have hbl := badOf_le (fs.take k)
  have hsl := snsOf_le (fs.take k)
  have htk := List.length_take_le k fs
  have htk2 : (fs.take k).length ≤ fs.length := by rw [List.length_take]; omega
  (conv => whnf)
  refine VCmp.mk (fun h => ?_) (fun h => ?_) <;> (conv => whnf)
  rotate_left 1
  · obtain rfl : k = no := by omega
    rw [List.take_of_length_le (by omega)] at hown hsn hbl ⊢
    refine (dropped_ok w' (hdf2.keepNo kk)).mono ?_
    rintro v w'' ⟨rfl, rfl⟩
    (conv => whnf)
    refine VRes.i64 (by omega) ?_
    (conv => whnf)
    rw [hlk]
    exact ⟨⟨Al, _, cl, cells, by rfl, hown.mono kp.size, hsn⟩, kp.trans kk⟩
  obtain ⟨x, hx⟩ : ∃ x, fs[k]? = some x := ⟨_, List.getElem?_eq_getElem (by omega)⟩
  obtain ⟨vx, hvx, Ax, cx, rfl, hcx, hsx, _⟩ := hels.2 k x hx
  have hxl := hfe x (List.mem_of_getElem? hx)
  obtain ⟨bo, oo, hAo, hco⟩ := hsv.at_ (by omega)
  refine VIdx.one k rfl (by omega) hAo ?_
  (conv => whnf)
  refine VLoad.by_ (kk.cell (hco k _ hvx) id) ?_
  (conv => whnf)
  refine VFill.by_ rfl ?_; (conv => whnf)
  refine (fRead_ok w' both (hsx.keepNo kk) (by omega) hcx (hg.keepNo (kp.trans kk))).mono ?_
  rintro v w3 ⟨⟨A3, c3, rfl, ho3⟩, hk3⟩
  have kk := kk.keepNo hk3; have hown := hown.keepNo hk3; have hsn := hsn.keepNo hk3
  have e1 := snsOf_snoc fs k x hx
  have e2 := badOf_snoc fs k x hx
  have hrl := readW_len x both
  (conv => whnf)
  refine VCmp.mk (fun h3 => ?_) (fun h3 => ?_) <;> (conv => whnf)
  · have e3 : snOf x = [] := by unfold snOf; rw [if_neg h3]
    rw [e3, List.append_nil] at e1
    rw [if_neg h3] at e2
    refine VRes.i64 (by omega) ?_
    (conv => whnf)
    refine VRes.i64 (by omega) ?_; (conv => whnf)
    refine ⟨(k + 1, Al, cl, cells), ⟨rfl, by rw [e1]; rfl, by rw [e2]; rfl, rfl, rfl, rfl, trivial⟩, ⟨by omega, by rw [e1]; exact hown, by rw [e1]; exact hsn, kk⟩, by dsimp only; omega⟩
  · have h3' : (readW x both).2.2 = 0 := by omega
    have e3 : snOf x = [snP (readW x both).1 (readW x both).2.1] := by unfold snOf; rw [if_pos h3']
    rw [e3] at e1
    rw [if_pos h3', Nat.add_zero] at e2
    refine (look_ok w3 (readW x both).1 (Sl.ofOwn ho3) (by omega) ho3.le).mono ?_
    rintro v w4 ⟨⟨A4, c4, rfl, hs4, hc4, hx4⟩, hk4⟩
    have kk := kk.keepNo hk4; have hown := hown.keepNo hk4; have hsn := hsn.keepNo hk4
    obtain ⟨y, hy⟩ : ∃ y, y = snP (readW x both).1 (readW x both).2.1 := ⟨_, rfl⟩
    rw [← hy] at e1 hs4 hc4 ⊢
    (conv => whnf)
    refine VFill.by_ rfl ?_; (conv => whnf)
    refine ⟨fun w5 hb5 hk5 => ?_⟩; have hb5_lt := Blk.lt hb5; have hk5_sz := hk5.size; (conv => whnf)
    have kk := kk.keepNo hk5; have hown := hown.keepNo hk5; have hsn := hsn.keepNo hk5; have hs4 := hs4.keepNo hk5
    have hone : SnsT w5 [iv y.proto, iv y.code, .slice A4 y.kinds.length c4, iv y.bytes, .bool y.enc] [y] := Sns.one_ hs4 hc4 (fun a ha => (hx4 a ha).keepNo hk5)
    refine appG (w0 := w2) kk hown (Sl.ofBlk (n := 1) (size := 5) hb5 rfl) hone.cells1 (by omega) ?_
    intro A6 c6 w6 ho6 hk6 hkA
    have hsn6 : SnsT w6 (cells ++ [iv y.proto, iv y.code, .slice A4 y.kinds.length c4, iv y.bytes, .bool y.enc]) (snsOf (fs.take k) ++ [y]) := SnsT.keep (Sns.append hsn hone) hkA (fun i hi ⟨a, ha, e⟩ => (hi.ne (hown.ty ha) (by decide)) e.symm)
    (conv => whnf)
    refine VRes.i64 (by omega) ?_; (conv => whnf)
    refine ⟨(k + 1, A6, c6, _), ⟨rfl, by rw [e1, List.length_append]; rfl, by rw [e2]; rfl, rfl, rfl, rfl, trivial⟩, ⟨by omega, by rw [e1, List.length_append]; exact ho6, by rw [e1]; exact hsn6, hk6⟩, by dsimp only; omega⟩

theorem gateKnown_ok (W : World) (hg : EtOk W) : VC Tryd.prog 4 [] W (fun v w' => v = .bool true ∧ Keep No W w') := by
  have hlx : lookP (wireP 33 [1] ⟨false, true⟩ 0#32).1 = ([⟨33, 0, [], 1, false⟩], 0) := by decide +kernel
  have hly : lookP ((wireP 253 [144, 0, 1] ⟨true, false⟩ 0#32).1 ++ [1, 2, 126]) = ([⟨253, 0, [], 3, true⟩], 1) := by decide +kernel
  have hn1 := wireP_len 33 [1] ⟨false, true⟩ 0#32
  have hn2 := wireP_len 253 [144, 0, 1] ⟨true, false⟩ 0#32
  refine VC.of tt_ok Tryd.func4 rfl (by decide +kernel) (Nat.le_of_ble_eq_true rfl) ?_; (conv => whnf)
  refine (awake26_ok W hg).mono ?_
  rintro v w1 ⟨rfl, kp⟩
  (conv => whnf)
  refine VFill.by_ rfl ?_; (conv => whnf)
  refine ⟨fun w2 hb2 hk2 => ?_⟩; have hb2_lt := Blk.lt hb2; have hk2_sz := hk2.size; (conv => whnf)
  have kp := kp.keepNo hk2
  refine VFill.by_ rfl ?_; (conv => whnf)
  refine (refWire_ok w2 33 (l := [1]) ⟨false, true⟩ 0#32 (Sl.ofBlk (n := 1) (size := 1) hb2 rfl) (by omega)).mono ?_
  rintro v w3 ⟨⟨A3, c3, rfl, ho3⟩, hk3⟩
  generalize wireP 33 [1] ⟨false, true⟩ 0#32 = xb at hlx hn1 ho3 ⊢
  have kp := kp.keepNo hk3
  (conv => whnf)
  refine VFill.by_ rfl ?_; (conv => whnf)
  refine ⟨fun w4 hb4 hk4 => ?_⟩; have hb4_lt := Blk.lt hb4; have hk4_sz := hk4.size; (conv => whnf)
  have kp := kp.keepNo hk4; have ho3 := ho3.keepNo hk4
  refine VFill.by_ rfl ?_; (conv => whnf)
  refine (refWire_ok w4 253 (l := [144, 0, 1]) ⟨true, false⟩ 0#32 (Sl.ofBlk (n := 3) (size := 1) hb4 rfl) (by omega)).mono ?_
  rintro v w5 ⟨⟨A5, c5, rfl, ho5⟩, hk5⟩
  generalize wireP 253 [144, 0, 1] ⟨true, false⟩ 0#32 = yb at hly hn2 ho5 ⊢
  have ho5 := ho5.mono kp.size
  have kp := kp.keepNo hk5; have ho3 := ho3.keepNo hk5
  (conv => whnf)
  refine (LookO_ok w5 (hg.keepNo kp) (Sl.ofOwn ho3) (by omega)).mono ?_
  rintro v w6 ⟨⟨A6, n6, c6, cells6, rfl, hs6, hq6⟩, hk6⟩
  rw [hlx] at hq6 ⊢
  obtain rfl : 1 = n6 := hq6.len (Sl.ofOwn hs6)
  have kp := kp.keepNo hk6; have ho5 := ho5.keepNo hk6
  (conv => whnf)
  refine VFill.by_ rfl ?_; (conv => whnf)
  refine ⟨fun w7 hb7 hk7 => ?_⟩; have hb7_lt := Blk.lt hb7; have hk7_sz := hk7.size; (conv => whnf)
  have kp := kp.keepNo hk7; have hs6 := hs6.keepNo hk7; have hq6 := hq6.keepNo hk7; have ho5 := ho5.keepNo hk7
  refine VApp.own tt_ok (it := ty27) (ei := ty5) rfl rfl rfl (size := 1) rfl rfl (by omega) ho5 (ys := [vb 1, vb 2, vb 126]) (Sl.ofBlk (n := 3) (size := 1) hb7 rfl) (one8 [1, 2, 126]) (by show (yb.1.length + 3) * 1 ≤ _; omega) (by omega) kp.size ?_
  intro A8 c8 w8 ho8 hk8 _
  have kp := kp.own ho5 hk8
  have hq6 := SnsT.keep hq6 hk8 (fun i hi ⟨a, ha, e⟩ => (hi.ne (ho5.ty ha) (by decide)) e.symm)
  have hs6 := hs6.keep hk8 (fun a ha ⟨a5, ha5, e⟩ => ((hs6.ty ha).ne (ho5.ty ha5) (by decide)) e.symm)
  have ho8 : Own w8 W.heap.size T8 1 A8 (yb.1.length + 3) c8 ((yb.1 ++ [1, 2, 126]).map vb) := by rw [List.map_append]; exact ho8
  (conv => whnf)
  refine (Look_ok w8 (hg.keepNo kp) (Sl.ofOwn ho8) (by omega)).mono ?_
  rintro v w9 ⟨⟨A9, n9, c9, cells9, rfl, hs9, hq9, _⟩, hk9⟩
  rw [hly] at hq9 ⊢
  obtain rfl : 1 = n9 := hq9.len hs9
  have kp := kp.keepNo hk9; have hs6 := hs6.keepNo hk9; have hq6 := hq6.keepNo hk9
  (conv => whnf)
  refine VCmp.mk (fun _ => ?_) (fun h => absurd rfl h); (conv => whnf)
  refine VCmp.mk (fun _ => ?_) (fun h => absurd rfl h); (conv => whnf)
  refine (Clean_ok w9 (Sl.ofOwn hs6) hq6 (by omega)).mono ?_
  rintro v w10 ⟨rfl, hk10⟩
  have kp := kp.keepNo hk10; have hs9 := hs9.keepNo hk10; have hq9 := hq9.keepNo hk10
  rw [show cleanB [⟨33, 0, [], 1, false⟩] = false from by decide]
  (conv => whnf)
  refine VCmp.mk (fun _ => ?_) (fun h => absurd rfl h); (conv => whnf)
  refine VCmp.mk (fun _ => ?_) (fun h => absurd rfl h); (conv => whnf)
  obtain ⟨b, o, A1, c1, hA, _, e0, e1, e2, e3, e4, _⟩ := hq9.at_ hs9 (k := 0) (x := ⟨253, 0, [], 3, true⟩) rfl
  refine VIdx.mul 0 rfl (by omega) hA ?_
  (conv => whnf)
  refine VLoad.by_ e4 ?_
  (conv => whnf)
  refine (Clean_ok w10 hs9 hq9 (by omega)).mono ?_
  rintro v w11 ⟨rfl, hk11⟩
  have kp := kp.keepNo hk11; have hs9 := hs9.keepNo hk11; have hq9 := hq9.keepNo hk11
  rw [show cleanB [⟨253, 0, [], 3, true⟩] = true from by decide]
  (conv => whnf)
  refine (Count_ok w11 253 hs9 hq9 (by omega)).mono ?_
  rintro v w12 ⟨rfl, hk12⟩
  have kp := kp.keepNo hk12
  rw [show countN 253 [⟨253, 0, [], 3, true⟩] = 1 from by decide]
  (conv => whnf)
  refine VCmp.mk (fun _ => ?_) (fun h => absurd rfl h); (conv => whnf)
  exact ⟨rfl, kp⟩

/-! ### The statement -/
theorem gateKnown_own : ownKnob Tryd.prog.godebug = none := by kernel_rfl
theorem gateKnown_laid : laidOutB Tryd.prog = true := by kernel_rfl
set_option maxRecDepth 100000 in
theorem gateKnown_lifted (os : Os) (started : os.Started) (H : Type) (enc : TypeId × Value → H) :
    ReturnsInHanded {} Tryd.checked os 4 .any (fun w args => (Rows.gateKnownSpec.pre enc Tryd.prog Tryd.f4 Rows.gateKnownRow.domain false w args ∧ laidMetH Tryd.prog laidL w) ∧ sizedMet enc Tryd.prog Tryd.f4 (OpenSpec.ofChange Rows.gateKnownSpec) false w args) (Rows.gateKnownSpec.post enc Tryd.prog Tryd.f4 false true false false) := by
  refine returnsInHanded_of_change_and (C := Tryd.checked) (X := fun w _ => laidMetH Tryd.prog laidL w) (fun _ _ _ hh h => h.of_heap hh) gateKnown_own started (by kernel_rfl) Tryd.func4
    (ChangeSpec.witness_at (enc := enc) (C := Tryd.checked) (os := os) (X := fun w _ => laidMetH Tryd.prog laidL w) false (laidWorld os) #[] 8 rfl (by kernel_rfl) (by kernel_rfl) (by kernel_rfl) (by kernel_rfl) (by kernel_rfl) (laidWorld_met os _)) ?_
  intro W base args ds gs before hval0 hW hcnd _ hL _
  have hg := handle_of_laid hL
  have hval : ∀ (j : Nat) t v, Tryd.f4.params[j]? = some t → args[j]? = some v → Value.okWide Tryd.prog W .any base t v := hval0
  have hW' := hW
  obtain ⟨p, q, hA0, hV, rfl, hfz, hnd⟩ := hW
  have hA : DataW.TrodAll enc Tryd.prog W 0 (fun _ => true) true Tryd.f4.params.toList args.toList ds p := hA0
  rw [Tryd.params4] at hA hval
  obtain ⟨rfl, rfl, rfl⟩ := trodAll_none hA
  obtain ⟨rfl, rfl⟩ := trodVars_none hV
  clear hA0 hval0
  refine (VC.law (gateKnown_ok W hg )).mono fun e W' ⟨he, bel⟩ => ?_
  subst he
  exact ⟨_, rfl, _, _, _, [], [], [], hW', trodAll_mk1 (shut_bool Tryd.underlying4 _), trodAll_mk0, rfl, bel.frame _, fun h => by cases h⟩

theorem gateKnown_over : Rows.gateKnownRow.holds Tryd.pinned (OpenSpec.ofChange Rows.gateKnownSpec) :=
  OpenClaim.holds_of_wide 4 Tryd.f4 rfl rfl rfl rfl rfl rfl rfl ⟨rfl, rfl, rfl, rfl, rfl⟩ rfl rfl rfl rfl rfl (by kernel_rfl) Tryd.func4 (by kernel_rfl)
    (of_decide_eq_true (by kernel_rfl)) (by unfold Func.isWrapper; first | (rw [if_pos (by decide +kernel)]; kernel_rfl) | (rw [if_neg (by decide +kernel)]; exact ⟨rfl, rfl⟩))
    (fun os started H enc _ => gateKnown_lifted os started H enc)


theorem gateKnown_proved : Rows.GateKnownCardSaid :=
  Claim7.holds_tied_plain_at .later [] [.handle] true (true, "7db9daa1a0c26b0a4d8629d9a49f21a28a0de7136281b861cac71a81a6cff372") true
    gateKnown_over (fun _ h => by cases h) (by kernel_rfl) (fun _ h => by cases h) gateKnown_row_tie rfl ⟨rfl, rfl⟩ (by kernel_rfl) rfl
    (fun f fn hf hfn => by
      obtain rfl : f = 4 := Option.some.inj ((show Tryd.prog.funcNamed "fairlead/fairleadlaw26.GateKnown" = some 4 by kernel_rfl).symm.trans hf) |>.symm
      obtain rfl : fn = Tryd.f4 := (Option.some.inj (Tryd.func4.symm.trans hfn)).symm
      exact ⟨by kernel_rfl, fun j t ht => by
        rw [Tryd.params4] at ht
        exact (match j, ht with

      | j + 0, ht => by simp at ht)⟩)
    (by kernel_rfl)
#print axioms gateKnown_proved
end Go.Proofs.YtpofkhjkdkkajaaDoor
