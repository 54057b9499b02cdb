/-
  Law 9: of letters below 128 the hash is that of each byte and a nought.
-/
import Derived.Test.YtoeijgbjgbgelaaDoorU3
import Derived.Test.YtoeijgbjgbgelaaDoorVl
namespace Go.Proofs.YtoeijgbjgbgelaaDoor
open Go V Go.ChangeShapes Go.WideShapes Go.ChangeAt Go.RowKit

def low7 (x : UInt8) : UInt8 := UInt8.ofNat (x.toNat % 128)
theorem low7_nat (x : UInt8) : (low7 x).toNat = x.toNat % 128 := by
  have : (UInt8.ofNat (x.toNat % 128)).toNat = x.toNat % 128 % 256 := by simp
  unfold low7; omega
theorem dec_low {c : UInt8} {l : List UInt8} (h : c.toNat < 128) : decP (c :: l) = (c.toNat, 1) := by
  unfold decP; exact if_pos h
theorem unitsF_low (l : List UInt8) (h : ∀ x ∈ l, x.toNat < 128) : ∀ k, l.length ≤ k → unitsF k l = some (l.map UInt8.toNat) := by
  induction l with
  | nil => intro k _; exact unitsF_nil k [] rfl
  | cons c l ih =>
    intro k hk
    have hc := h c (by simp)
    have hd := dec_low (l := l) hc
    have hb : ¬ decBad (c :: l) := by unfold decBad; rw [hd]; dsimp only; omega
    have hk : l.length + 1 ≤ k := hk
    rw [unitsF_step (by simpa using hk) (by simp) hb, hd]
    show (unitsF (k - 1) ((c :: l).drop 1)).map _ = _
    have e : (c :: l).drop 1 = l := rfl
    rw [e, ih (fun x hx => h x (by simp [hx])) (k - 1) (by omega)]
    have er : rune16 c.toNat = [c.toNat] := by unfold rune16; rw [if_neg (by omega)]
    dsimp only [Option.map_some]
    rw [er]
    rfl
def flat2 (l : List UInt8) : List UInt8 := l.flatMap fun c => [c, 0]
theorem flat2_len (l : List UInt8) : (flat2 l).length = 2 * l.length := by
  induction l with
  | nil => rfl
  | cons u us ih =>
    have : flat2 (u :: us) = [u, 0] ++ flat2 us := by simp [flat2]
    rw [this, List.length_append, ih, List.length_cons]; simp; omega
theorem unitsB_low (l : List UInt8) (h : ∀ x ∈ l, x.toNat < 128) : unitsB (l.map UInt8.toNat) = flat2 l := by
  induction l with
  | nil => rfl
  | cons c l ih =>
    have hc := h c (by simp)
    have e1 : unitsB ((c :: l).map UInt8.toNat) = unitB c.toNat ++ unitsB (l.map UInt8.toNat) := by simp [unitsB]
    have e2 : flat2 (c :: l) = [c, 0] ++ flat2 l := by simp [flat2]
    rw [e1, e2, ih (fun x hx => h x (by simp [hx]))]
    congr 1
    unfold unitB
    rw [show c.toNat / 256 = 0 from by omega]
    simp
theorem take_low (l : List UInt8) {k : Nat} (hk : k < l.length) : (l.take (k + 1)).map low7 = (l.take k).map low7 ++ [low7 (l.getD k 0)] := by
  rw [List.take_add_one, List.getElem?_eq_getElem hk, List.getD_eq_getElem?_getD, List.getElem?_eq_getElem hk, List.map_append]; rfl
theorem sb_append (a b : List UInt8) : sb a ++ sb b = sb (a ++ b) := by
  apply ByteArray.ext
  simp [sb]

theorem chapUnits_ok (W : World) (hw : LawOk W) (A : Option Addr) (n c : Nat) (l : List UInt8) (hs : Sl W 1 A n (l.map vb)) (_ : n ≤ c) (_ : c ≤ 9223372036854775807) (_ : ∀ a, A = some a → 0 < n → a.block < W.heap.size) :
    VC Tryd.prog 4 [.slice A n c] W (fun v w' => v = .bool true ∧ Keep No W w') := by
  have hl : l.length = n := by simpa using hs.len
  refine VC.of tt_ok Tryd.func4 rfl (by decide +kernel) (Nat.le_of_ble_eq_true rfl) ?_; (conv => whnf)
  refine (awake9_ok W hw).mono ?_
  rintro v w1 ⟨rfl, kp⟩
  have hw := hw.keepNo kp
  have hs := hs.keepNo kp
  (conv => whnf)
  refine VCmp.mk (fun h => ?_) (fun h => ?_) <;> (conv => whnf)
  · exact ⟨rfl, kp⟩
  refine VLoop.by_ tt_ok (S := Nat × Option Addr × Nat) (fun | (k, Al, cl) => [(0, .slice A n c), (3, .string (sb ((l.take k).map low7))), (4, .slice Al (2 * k) cl), (5, .int .i64 k)])
    (fun | (k, Al, cl) => fun w' => k ≤ n ∧ Own w' w1.heap.size T8 1 Al (2 * k) cl ((flat2 ((l.take k).map low7)).map vb) ∧ Keep No w1 w') (fun | (k, _) => n - k)
    (0, none, 0) ⟨rfl, rfl, rfl, rfl, trivial⟩ ⟨by omega, Own.nil _ _ _ _, Keep.refl _ _⟩ ?_
  rintro ⟨k, Al, cl⟩ w' ⟨hk, hown, kk⟩
  (conv => whnf)
  refine VCmp.mk (fun h => ?_) (fun h => ?_) <;> (conv => whnf)
  · have hs' := hs.keepNo kk
    refine VIdx.sl (hs') (k) (by first | rfl | omega) (by omega) (fun b_ o_ hA_ hc_ => ?_); (conv => whnf); refine VLoad.by_ hc_ ?_; (conv => whnf)
    refine VRes.mask8 (x := (l.getD k 0).toNat) (k := 7) rfl (by omega) rfl (UInt8.toNat_lt _) ?_
    have e7 : (((l.getD k 0).toNat % 2 ^ 7 : Nat) : Int) = ((low7 (l.getD k 0)).toNat : Int) := by rw [low7_nat]
    rw [e7]
    (conv => whnf)
    refine VFill.by_ rfl ?_; (conv => whnf)
    refine ⟨fun w3 hb3 k3 => ?_⟩
    have kk := kk.trans k3
    have hown := hown.keepNo k3
    (conv => whnf)
    refine VConv.toStr (l := [low7 (l.getD k 0)]) (Sl.ofBlk (n := 1) (size := 1) hb3 rfl) ?_
    (conv => whnf)
    refine VReq.mk (by rw [sb_size, sb_size, List.length_map, List.length_take]; simp; omega) ?_
    rw [sb_append, ← take_low l (by omega)]
    (conv => whnf)
    refine VFill.by_ rfl ?_; (conv => whnf)
    refine ⟨fun w4 hb4 k4 => ?_⟩
    (conv => whnf)
    refine appBd (w0 := w1) (ys := [low7 (l.getD k 0), 0]) (kk.trans k4) (hown.keepNo k4) (Sl.ofBlk (n := 2) (size := 1) hb4 rfl) (by omega) ?_
    intro A5 c5 w5 ho5 k5 _
    (conv => whnf)
    refine VRes.i64 (by omega) ?_; (conv => whnf)
    refine ⟨(k + 1, A5, c5), ⟨rfl, rfl, rfl, rfl, trivial⟩, ⟨by omega, ?_, k5⟩, by dsimp only; omega⟩
    rw [take_low l (by omega)]
    have : flat2 ((l.take k).map low7 ++ [low7 (l.getD k 0)]) = flat2 ((l.take k).map low7) ++ [low7 (l.getD k 0), 0] := by simp [flat2]
    rw [this]
    exact ho5
  obtain rfl : k = n := by omega
  rw [List.take_of_length_le (by omega)] at *
  obtain ⟨s, hsx⟩ : ∃ s, s = l.map low7 := ⟨_, rfl⟩
  rw [← hsx] at hown
  rw [← hsx]
  have hsl : s.length = k := by rw [hsx, List.length_map, hl]
  have hlow : ∀ x ∈ s, x.toNat < 128 := by
    intro x hx
    rw [hsx] at hx
    obtain ⟨y, _, rfl⟩ := List.mem_map.1 hx
    rw [low7_nat]; omega
  have hun := unitsF_low s hlow s.length (Nat.le_refl _)
  have hE : unitsE s = 0 := by unfold unitsE; rw [hun]; show (if _ then _ else _) = _; rw [if_neg (by rw [List.length_map]; omega)]
  have hB : hashB s = flat2 s := by unfold hashB; rw [hun]; exact unitsB_low s hlow
  refine (Hash_ok w' (hw.keepNo kk) s (by omega)).mono ?_
  rintro v w2 ⟨hv, k2⟩
  rw [if_pos hE, hB] at hv
  obtain ⟨A2, c2, rfl, hs2, hc2⟩ := hv
  (conv => whnf)
  refine VCmp.mk (fun _ => ?_) (fun h => absurd rfl h); (conv => whnf)
  refine (Md.refMd4_ok w2 (Sl.ofOwn (hown.keepNo k2)) (by omega)).mono ?_
  rintro v w3 ⟨A3, c3, rfl, ho3, k3⟩
  (conv => whnf)
  refine (same_ok w3 (hs2.keepNo k3) (Sl.ofOwn ho3) (by decide)).mono ?_
  rintro v w4 ⟨rfl, k4⟩
  rw [decide_eq_true rfl]
  (conv => whnf)
  refine VCmp.mk (fun _ => ?_) (fun h => absurd rfl h); (conv => whnf)
  exact ⟨rfl, (((kp.trans kk).trans k2).trans k3).trans k4⟩

/-! ### The statement -/
theorem chapUnits_own : ownKnob Tryd.prog.godebug = none := by kernel_rfl
theorem chapUnits_laid : laidOutB Tryd.prog = true := by kernel_rfl
set_option maxRecDepth 100000 in
theorem chapUnits_lifted (os : Os) (started : os.Started) (H : Type) (enc : TypeId × Value → H) :
    ReturnsInHanded {} Tryd.checked os 4 .any (fun w args => (Rows.chapUnitsSpec.pre enc Tryd.prog Tryd.f4 Rows.chapUnitsRow.domain false w args ∧ laidMetH Tryd.prog laidL w) ∧ sizedMet enc Tryd.prog Tryd.f4 (OpenSpec.ofChange Rows.chapUnitsSpec) false w args) (Rows.chapUnitsSpec.post enc Tryd.prog Tryd.f4 false true false false) := by
  refine returnsInHanded_of_change_and (C := Tryd.checked) (X := fun w _ => laidMetH Tryd.prog laidL w) (fun _ _ _ hh h => h.of_heap hh) chapUnits_own started (by kernel_rfl) Tryd.func4
    (ChangeSpec.witness_at (enc := enc) (C := Tryd.checked) (os := os) (X := fun w _ => laidMetH Tryd.prog laidL w) false (laidWorld os) #[.slice none 0 0] 8 (by first | rfl | exact laidWorld_os os) (by kernel_rfl) (by kernel_rfl) (by kernel_rfl) (by kernel_rfl) (by kernel_rfl) (laidWorld_met os _)) ?_
  intro W base args ds gs before hval0 hW hcnd _ hL _
  have hg := handle_of_laid hL
  have hval : ∀ (j : Nat) t v, Tryd.f4.params[j]? = some t → args[j]? = some v → Value.okWide Tryd.prog W .any base t v := hval0
  have hW' := hW
  obtain ⟨p, q, hA0, hV, rfl, hfz, hnd⟩ := hW
  have hA : DataW.TrodAll enc Tryd.prog W 0 (fun _ => true) true Tryd.f4.params.toList args.toList ds p := hA0
  rw [Tryd.params4] at hA hval
  obtain ⟨v0, vs0, d0, ds0, p0, q0, hargs, rfl, rfl, h0, r0⟩ := trodAll_cons hA
  obtain ⟨rfl, rfl, rfl⟩ := trodAll_nil r0
  obtain rfl : args = #[v0] := by cases args; simp_all
  obtain ⟨rfl, rfl⟩ := trodVars_none hV
  have k0 := h0
  have lt0 : ∀ x ∈ p0, x.block < W.heap.size := by obtain ⟨m, hm⟩ := k0; exact DataW.trod_lt m _ _ _ hm
  obtain ⟨aa0, la0, ca0, rfl⟩ := okWide_slice Tryd.underlying23 (hval 0 23 v0 rfl rfl)
  obtain ⟨fuel0, hf0⟩ := h0
  obtain ⟨A0, n0, c0, l0, e0, s0, ln0, nc0, cc0, b0⟩ := open_bytes Tryd.underlying23 Tryd.underlying5 (by kernel_rfl) hf0
  cases e0
  clear hA0 hval0
  refine (VC.law (chapUnits_ok W hg aa0 la0 ca0 l0 s0 nc0 cc0 b0)).mono fun e W' ⟨he, bel⟩ => ?_
  subst he
  exact ⟨_, rfl, _, _, _, [], _, [], hW', trodAll_mk1 (shut_bool Tryd.underlying4 _), (trodAll_cons_mk (Below.trod chapUnits_laid (by kernel_rfl) (of_decide_eq_true (by kernel_rfl)) k0 bel lt0) trodAll_mk0), rfl, bel.frame _, fun h => by cases h⟩

theorem chapUnits_over : Rows.chapUnitsRow.holds Tryd.pinned (OpenSpec.ofChange Rows.chapUnitsSpec) :=
  OpenClaim.holds_of_wide 4 Tryd.f4 rfl rfl rfl rfl rfl rfl rfl ⟨rfl, rfl, rfl, rfl, rfl⟩ rfl rfl rfl rfl rfl (by kernel_rfl) Tryd.func4 (by kernel_rfl)
    (of_decide_eq_true (by kernel_rfl)) (by unfold Func.isWrapper; first | (rw [if_pos (by decide +kernel)]; kernel_rfl) | (rw [if_neg (by decide +kernel)]; exact ⟨rfl, rfl⟩))
    (fun os started H enc _ => chapUnits_lifted os started H enc)


theorem chapUnits_proved : Rows.ChapUnitsCardSaid :=
  Claim7.holds_tied_plain_at .later [] [.data, .handle, .pinned] true (true, "d848b456771465d59b552508a8352eea4c3a926b5b77aaadab633f6ba219e0b5") true
    chapUnits_over (fun _ h => by cases h) (by kernel_rfl) (fun _ h => by cases h) chapUnits_row_tie rfl ⟨rfl, rfl⟩ (by kernel_rfl) rfl
    (fun f fn hf hfn => by
      obtain rfl : f = 4 := Option.some.inj ((show Tryd.prog.funcNamed "fairlead/fairleadlaw9.ChapUnits" = some 4 by kernel_rfl).symm.trans hf) |>.symm
      obtain rfl : fn = Tryd.f4 := (Option.some.inj (Tryd.func4.symm.trans hfn)).symm
      exact ⟨by kernel_rfl, fun j t ht => by
        rw [Tryd.params4] at ht
        exact (match j, ht with
      | 0, ht => by obtain rfl : 23 = t := (by simpa using ht); kernel_rfl
      | j + 1, ht => by simp at ht)⟩)
    (by kernel_rfl)
#print axioms chapUnits_proved
end Go.Proofs.YtoeijgbjgbgelaaDoor
